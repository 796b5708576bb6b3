/-
  Proved here: for every input the law FnExactFreeCore returns true, and every argument reads behind the call as it read before. No condition.
-/
import Derived.Test.YtphbmdoeaebhnaaOpen
import Derived.Test.YtphbmdoeaebhnaaCore
import Derived.ProofKit
import Derived.OpenShut
import Derived.ShutString
import Derived.ChangeOld
import Derived.Below
namespace Go.Proofs.Ytphbmdoeaebhnaa.fnExactFreeCore
open Go.ChangeShapes Go.WideShapes Go.ChangeAt Go.RowKit
open Go.ChangeMaps (open_string shut_string)
set_option linter.unusedVariables false

set_option maxRecDepth 100000 in
set_option maxHeartbeats 2000000 in
theorem walk (n : Int) (v1 : Value) (xs : List Int) (w : World) (b0 : R64 n) (h1 : Sl w w.heap.size v1 xs) (b1 : ∀ x ∈ xs, R64 x) :
    Calls Try.prog 4 #[.int .i64 n, v1] w fun e w' => e = .returned (.bool true) ∧ Below w.heap.size w w' := by
  by_cases z1 : (xs.length : Int) ≤ 1048576
  rotate_left
  · have z1' : 1048576 < (xs.length : Int) := by omega
    obtain ⟨A1, c1, rfl, hl1, hm1, _, _⟩ := h1
    unfold maxLen at hm1
    go_enter Try.func4, Try.ntmps4
    go_wp2
    go_ret
    exact ⟨rfl, Below.refl _ _⟩
  obtain ⟨A1, c1, e1, hl1, hm1⟩ : ∃ A c, v1 = .slice A xs.length c ∧ xs.length ≤ c ∧ c ≤ 9223372036854775807 := by obtain ⟨A, c, h1, h2, h3, _⟩ := h1; simp only [maxLen] at h3; exact ⟨A, c, h1, h2, by omega⟩
  subst e1
  have hf := fCoreA_len n xs
  have hf2 := fCoreB_len n xs
  have hA0 : Below w.heap.size w w := (Below.refl w.heap.size w)
  have hB0 : w.heap.size ≤ w.heap.size := hA0.size
  have hb0 := Below.refl w.heap.size w
  have hS0 : St w w.heap.size [] := Nat.le_refl _
  have g1 := h1.below hA0 (Nat.le_refl _)
  clear h1
  go_enter Try.func4, Try.ntmps4
  go_wp2_with fail
  refine (toInts_any _ _ _ _ (g1.below hb0 hB0) (Nat.le_trans hB0 hb0.size) (by omega)).mono ?_
  rintro e w1 ⟨r1, rfl, ho1, hq⟩
  have hb1 := hb0.trans (hq.mono hb0.size)
  have hS1 := hS0.below hq
  clear hb0 hS0 hq
  go_wp2_with fail
  refine (spec_FreeCore_any _ xs _ n _ (ho1.sl (Nat.le_refl _)) (Nat.le_refl _)).mono ?_
  rintro e w2 ⟨q2_0, q2_1, rfl, ho2, hq⟩
  have hb2 := hb1.trans (hq.mono hb1.size)
  have hS2 := hS1.join hq ho2
  clear ho2
  clear hb1 hS1 hq
  go_wp2_with fail
  clear ho1
  refine (toInts_any _ _ _ _ (g1.below hb2 hB0) (Nat.le_trans hB0 hb2.size) (by omega)).mono ?_
  rintro e w3 ⟨r3, rfl, ho3, hq⟩
  have hb3 := hb2.trans (hq.mono hb2.size)
  have hS3 := hS2.join hq (st_ow ho3 hq)
  clear ho3
  clear hb2 hS2 hq
  go_wp2_with fail
  refine (impl_FreeCore_any _ xs _ n _ (St.rd [ow q2_0 (fCoreA n xs), ow q2_1 (fCoreB n xs)] [] hS3) (Nat.le_refl _)).mono ?_
  rintro e w4 ⟨q4_0, q4_1, rfl, ho4, hq⟩
  have hb4 := hb3.trans (hq.mono hb3.size)
  have hS4 := hS3.join hq ho4
  clear ho4
  clear hb3 hS3 hq
  go_wp2_with fail
  refine (eqInts_yes (St.rd [ow q2_0 (fCoreA n xs), ow q2_1 (fCoreB n xs), ow r3 (xs)] [ow q4_1 (fCoreB n xs)] hS4) (St.rd [] [ow q2_1 (fCoreB n xs), ow r3 (xs), ow q4_0 (fCoreA n xs), ow q4_1 (fCoreB n xs)] hS4) rfl).mono ?_
  rintro e w5 ⟨rfl, hq⟩
  have hb5 := hb4.trans (hq.mono hb4.size)
  have hS5 := hS4.below hq
  clear hb4 hS4 hq
  go_wp2_with fail
  refine (eqInts_yes (St.rd [ow q2_0 (fCoreA n xs), ow q2_1 (fCoreB n xs), ow r3 (xs), ow q4_0 (fCoreA n xs)] [] hS5) (St.rd [ow q2_0 (fCoreA n xs)] [ow r3 (xs), ow q4_0 (fCoreA n xs), ow q4_1 (fCoreB n xs)] hS5) rfl).mono ?_
  rintro e w6 ⟨rfl, hq⟩
  have hb6 := hb5.trans (hq.mono hb5.size)
  have hS6 := hS5.below hq
  clear hb5 hS5 hq
  go_wp2_with fail
  refine (toInts_any _ _ _ _ (g1.below hb6 hB0) (Nat.le_trans hB0 hb6.size) (by omega)).mono ?_
  rintro e w7 ⟨r7, rfl, ho7, hq⟩
  have hb7 := hb6.trans (hq.mono hb6.size)
  have hS7 := hS6.below hq
  clear hb6 hS6 hq
  go_wp2_with fail
  refine (eqInts_yes (St.rd [ow q2_0 (fCoreA n xs), ow q2_1 (fCoreB n xs)] [ow q4_0 (fCoreA n xs), ow q4_1 (fCoreB n xs)] hS7) (ho7.sl (Nat.le_refl _)) rfl).mono ?_
  rintro e w8 ⟨rfl, hq⟩
  have hb8 := hb7.trans (hq.mono hb7.size)
  have hS8 := hS7.below hq
  clear ho7 hb7 hS7 hq
  go_wp2_with fail
  obtain ⟨lo9, hi9, l1, l2, l3, hit, hset⟩ := hS8.at_ [ow q2_0 (fCoreA n xs), ow q2_1 (fCoreB n xs)] (ow r3 (xs)) [ow q4_0 (fCoreA n xs), ow q4_1 (fCoreB n xs)]
  have HSET := Lib.hid hset
  clear hset
  refine (markInts_any _ _ _ _ (1) _ hit (by omega) (by omega) (by omega)).mono ?_
  rintro e w9 ⟨rfl, hit2, hch⟩
  have hb9 := hb8.trans (hch.below l1 hb8.size)
  have hS9 := HSET.out (ow r3 (countFrom (1) (xs).length)) w9 hit2 hch
  clear hb8 hS8 HSET hit hit2 hch l1 l2 l3
  go_wp2_with fail
  refine (eqInts_yes (St.rd [ow q2_0 (fCoreA n xs), ow q2_1 (fCoreB n xs), ow r3 (countFrom (1) (xs).length)] [ow q4_1 (fCoreB n xs)] hS9) (St.rd [] [ow q2_1 (fCoreB n xs), ow r3 (countFrom (1) (xs).length), ow q4_0 (fCoreA n xs), ow q4_1 (fCoreB n xs)] hS9) rfl).mono ?_
  rintro e w10 ⟨rfl, hq⟩
  have hb10 := hb9.trans (hq.mono hb9.size)
  have hS10 := hS9.below hq
  clear hb9 hS9 hq
  go_wp2_with fail
  refine (eqInts_yes (St.rd [ow q2_0 (fCoreA n xs), ow q2_1 (fCoreB n xs), ow r3 (countFrom (1) (xs).length), ow q4_0 (fCoreA n xs)] [] hS10) (St.rd [ow q2_0 (fCoreA n xs)] [ow r3 (countFrom (1) (xs).length), ow q4_0 (fCoreA n xs), ow q4_1 (fCoreB n xs)] hS10) rfl).mono ?_
  rintro e w11 ⟨rfl, hq⟩
  have hb11 := hb10.trans (hq.mono hb10.size)
  have hS11 := hS10.below hq
  clear hb10 hS10 hq
  go_wp2_with fail
  obtain ⟨lo12, hi12, l1, l2, l3, hit, hset⟩ := hS11.at_ [ow q2_0 (fCoreA n xs), ow q2_1 (fCoreB n xs), ow r3 (countFrom (1) (xs).length)] (ow q4_0 (fCoreA n xs)) [ow q4_1 (fCoreB n xs)]
  have HSET := Lib.hid hset
  clear hset
  refine (markInts_any _ _ _ _ (1) _ hit (by omega) (by omega) (by omega)).mono ?_
  rintro e w12 ⟨rfl, hit2, hch⟩
  have hb12 := hb11.trans (hch.below l1 hb11.size)
  have hS12 := HSET.out (ow q4_0 (countFrom (1) (fCoreA n xs).length)) w12 hit2 hch
  clear hb11 hS11 HSET hit hit2 hch l1 l2 l3
  go_wp2_with fail
  obtain ⟨lo13, hi13, l1, l2, l3, hit, hset⟩ := hS12.at_ [ow q2_0 (fCoreA n xs), ow q2_1 (fCoreB n xs), ow r3 (countFrom (1) (xs).length), ow q4_0 (countFrom (1) (fCoreA n xs).length)] (ow q4_1 (fCoreB n xs)) []
  have HSET := Lib.hid hset
  clear hset
  refine (markInts_any _ _ _ _ (1 + ((fCoreA n xs).length : Int)) _ hit (by omega) (by omega) (by omega)).mono ?_
  rintro e w13 ⟨rfl, hit2, hch⟩
  have hb13 := hb12.trans (hch.below l1 hb12.size)
  have hS13 := HSET.out (ow q4_1 (countFrom (1 + ((fCoreA n xs).length : Int)) (fCoreB n xs).length)) w13 hit2 hch
  clear hb12 hS12 HSET hit hit2 hch l1 l2 l3
  go_wp2_with fail
  refine (heldInts_quiet ((St.rd [ow q2_0 (fCoreA n xs), ow q2_1 (fCoreB n xs), ow r3 (countFrom (1) (xs).length)] [ow q4_1 (countFrom (1 + ((fCoreA n xs).length : Int)) (fCoreB n xs).length)] hS13)) (by omega) (by omega) (by omega)).mono ?_
  rintro e w14 ⟨rfl, hq⟩
  have hb14 := hb13.trans (hq.mono hb13.size)
  have hS14 := hS13.below hq
  clear hb13 hS13 hq
  go_wp2_with fail
  refine (heldInts_quiet ((St.rd [ow q2_0 (fCoreA n xs), ow q2_1 (fCoreB n xs), ow r3 (countFrom (1) (xs).length), ow q4_0 (countFrom (1) (fCoreA n xs).length)] [] hS14)) (by omega) (by omega) (by omega)).mono ?_
  rintro e w15 ⟨rfl, hq⟩
  have hb15 := hb14.trans (hq.mono hb14.size)
  have hS15 := hS14.below hq
  clear hb14 hS14 hq
  go_wp2_with fail
  refine (toInts_any _ _ _ _ (g1.below hb15 hB0) (Nat.le_trans hB0 hb15.size) (by omega)).mono ?_
  rintro e w16 ⟨r16, rfl, ho16, hq⟩
  have hb16 := hb15.trans (hq.mono hb15.size)
  have hS16 := hS15.below hq
  clear hb15 hS15 hq
  go_wp2_with fail
  refine (impl_FreeCore_any _ xs _ n _ (ho16.sl (Nat.le_refl _)) (Nat.le_refl _)).mono ?_
  rintro e w17 ⟨q17_0, q17_1, rfl, ho17, hq⟩
  have hb17 := hb16.trans (hq.mono hb16.size)
  have hS17 := hS16.join hq ho17
  clear ho17
  clear hb16 hS16 hq
  go_wp2_with fail
  clear ho16
  refine (eqInts_yes (St.rd [ow q2_0 (fCoreA n xs), ow q2_1 (fCoreB n xs), ow r3 (countFrom (1) (xs).length), ow q4_0 (countFrom (1) (fCoreA n xs).length), ow q4_1 (countFrom (1 + ((fCoreA n xs).length : Int)) (fCoreB n xs).length)] [ow q17_1 (fCoreB n xs)] hS17) (St.rd [] [ow q2_1 (fCoreB n xs), ow r3 (countFrom (1) (xs).length), ow q4_0 (countFrom (1) (fCoreA n xs).length), ow q4_1 (countFrom (1 + ((fCoreA n xs).length : Int)) (fCoreB n xs).length), ow q17_0 (fCoreA n xs), ow q17_1 (fCoreB n xs)] hS17) rfl).mono ?_
  rintro e w18 ⟨rfl, hq⟩
  have hb18 := hb17.trans (hq.mono hb17.size)
  have hS18 := hS17.below hq
  clear hb17 hS17 hq
  go_wp2_with fail
  refine (eqInts_yes (St.rd [ow q2_0 (fCoreA n xs), ow q2_1 (fCoreB n xs), ow r3 (countFrom (1) (xs).length), ow q4_0 (countFrom (1) (fCoreA n xs).length), ow q4_1 (countFrom (1 + ((fCoreA n xs).length : Int)) (fCoreB n xs).length), ow q17_0 (fCoreA n xs)] [] hS18) (St.rd [ow q2_0 (fCoreA n xs)] [ow r3 (countFrom (1) (xs).length), ow q4_0 (countFrom (1) (fCoreA n xs).length), ow q4_1 (countFrom (1 + ((fCoreA n xs).length : Int)) (fCoreB n xs).length), ow q17_0 (fCoreA n xs), ow q17_1 (fCoreB n xs)] hS18) rfl).mono ?_
  rintro e w19 ⟨rfl, hq⟩
  have hb19 := hb18.trans (hq.mono hb18.size)
  have hS19 := hS18.below hq
  clear hb18 hS18 hq
  go_wp2_with fail
  refine (heldInts_quiet ((St.rd [ow q2_0 (fCoreA n xs), ow q2_1 (fCoreB n xs), ow r3 (countFrom (1) (xs).length)] [ow q4_1 (countFrom (1 + ((fCoreA n xs).length : Int)) (fCoreB n xs).length), ow q17_0 (fCoreA n xs), ow q17_1 (fCoreB n xs)] hS19)) (by omega) (by omega) (by omega)).mono ?_
  rintro e w20 ⟨rfl, hq⟩
  have hb20 := hb19.trans (hq.mono hb19.size)
  have hS20 := hS19.below hq
  clear hb19 hS19 hq
  go_wp2_with fail
  refine (heldInts_quiet ((St.rd [ow q2_0 (fCoreA n xs), ow q2_1 (fCoreB n xs), ow r3 (countFrom (1) (xs).length), ow q4_0 (countFrom (1) (fCoreA n xs).length)] [ow q17_0 (fCoreA n xs), ow q17_1 (fCoreB n xs)] hS20)) (by omega) (by omega) (by omega)).mono ?_
  rintro e w21 ⟨rfl, hq⟩
  have hb21 := hb20.trans (hq.mono hb20.size)
  have hS21 := hS20.below hq
  clear hb20 hS20 hq
  go_wp2_with fail
  go_ret
  exact ⟨rfl, hA0.trans (hb21.mono hB0)⟩

set_option maxRecDepth 100000 in
theorem lifted (os : Os) (started : os.Started) (H : Type) (enc : TypeId × Value → H) :
    ReturnsInHanded {} Try.checked os 4 .any (Rows.fnExactFreeCoreSpec.pre6 enc Try.prog Try.f4 Rows.fnExactFreeCoreRow.domain false) (Rows.fnExactFreeCoreSpec.post enc Try.prog Try.f4 false true false false) := by
  refine returnsInHanded_of_change (C := Try.checked) own_knob started (by kernel_rfl) Try.func4
    (ChangeSpec.witness6 (enc := enc) (C := Try.checked) false ⟨#[], #[.int .i64 0, .slice none 0 0], []⟩ 8 (by kernel_rfl) (by kernel_rfl) (by kernel_rfl) (by kernel_rfl)) ?_
  intro W base args ds gs before hval0 hW hcnd _
  have hval : ∀ (j : Nat) t v, Try.f4.params[j]? = some t → args[j]? = some v → Value.okWide Try.prog W .any base t v := hval0
  have hW' := hW
  obtain ⟨p, q, hA0, hV, rfl, hfz, hnd⟩ := hW
  have hA : DataW.TrodAll enc Try.prog W 0 (fun _ => true) true Try.f4.params.toList args.toList ds p := hA0
  rw [Try.params4] at hA hval
  obtain ⟨v0, vs0, d0, ds0, p0, q0, hargs, rfl, rfl, h0, r0⟩ := trodAll_cons hA
  obtain ⟨v1, vs1, d1, ds1, p1, q1, rfl, rfl, rfl, h1, r1⟩ := trodAll_cons r0
  obtain ⟨rfl, rfl, rfl⟩ := trodAll_nil r1
  obtain rfl : args = #[v0, v1] := by cases args; simp_all
  obtain ⟨rfl, rfl⟩ := trodVars_none hV
  have k0 := h0
  have lt0 : ∀ x ∈ p0, x.block < W.heap.size := by obtain ⟨m, hm⟩ := k0; exact DataW.trod_lt m _ _ _ hm
  have k1 := h1
  have lt1 : ∀ x ∈ p1, x.block < W.heap.size := by obtain ⟨m, hm⟩ := k1; exact DataW.trod_lt m _ _ _ hm
  obtain ⟨n, rfl, b0⟩ := open_I (hval 0 2 v0 rfl rfl) h0
  obtain ⟨xs, s1, b1⟩ := open_Sl (hval 1 22 v1 rfl rfl) h1
  clear hA0 hval0
  refine (walk n v1 xs W b0 s1 b1).mono fun e W' ⟨he, bel⟩ => ?_
  subst he
  exact ⟨_, rfl, _, _, _, [], _, [], hW', trodAll_mk1 (shut_bool Try.underlying4 _), (trodAll_cons_mk (Below.trod laid_out (by kernel_rfl) (of_decide_eq_true (by kernel_rfl)) k0 bel lt0) (trodAll_cons_mk (Below.trod laid_out (by kernel_rfl) (of_decide_eq_true (by kernel_rfl)) k1 bel lt1) trodAll_mk0)), rfl, bel.frame _, fun h => by cases h⟩

/-- The statement. -/
theorem proved : Rows.FnExactFreeCoreSaid :=
  OpenClaim.holds_of_wide 4 Try.f4 rfl rfl rfl rfl rfl rfl rfl ⟨rfl, rfl, rfl, rfl, rfl⟩ rfl rfl rfl rfl rfl (by kernel_rfl) Try.func4 (by kernel_rfl)
    (of_decide_eq_true (by kernel_rfl)) (by unfold Func.isWrapper; first | (rw [if_pos (by decide +kernel)]; kernel_rfl) | (rw [if_neg (by decide +kernel)]; exact ⟨rfl, rfl⟩))
    (fun os started H enc _ => lifted os started H enc)
#print axioms proved
end Go.Proofs.Ytphbmdoeaebhnaa.fnExactFreeCore
