/-
  Proved here: for every input the law FnExactFreeInverse returns true, and every argument reads behind the call as it read before. No condition.
-/
import Derived.Test.YtphbmdoeaebhnaaOpen
import Derived.Test.YtphbmdoeaebhnaaInv
import Derived.ProofKit
import Derived.OpenShut
import Derived.ShutString
import Derived.ChangeOld
import Derived.Below
namespace Go.Proofs.Ytphbmdoeaebhnaa.fnExactFreeInverse
open Go.ChangeShapes Go.WideShapes Go.ChangeAt Go.RowKit
open Go.ChangeMaps (open_string shut_string)
set_option linter.unusedVariables false

set_option maxRecDepth 100000 in
set_option maxHeartbeats 2000000 in
theorem walk (n : Int) (v1 : Value) (xs : List Int) (w : World) (b0 : R64 n) (h1 : Sl w w.heap.size v1 xs) (b1 : ∀ x ∈ xs, R64 x) :
    Calls Try.prog 3 #[.int .i64 n, v1] w fun e w' => e = .returned (.bool true) ∧ Below w.heap.size w w' := by
  by_cases z1 : (xs.length : Int) ≤ 1048576
  rotate_left
  · have z1' : 1048576 < (xs.length : Int) := by omega
    obtain ⟨A1, c1, rfl, hl1, hm1, _, _⟩ := h1
    unfold maxLen at hm1
    go_enter Try.func3, Try.ntmps3
    go_wp2
    go_ret
    exact ⟨rfl, Below.refl _ _⟩
  obtain ⟨A1, c1, e1, hl1, hm1⟩ : ∃ A c, v1 = .slice A xs.length c ∧ xs.length ≤ c ∧ c ≤ 9223372036854775807 := by obtain ⟨A, c, h1, h2, h3, _⟩ := h1; simp only [maxLen] at h3; exact ⟨A, c, h1, h2, by omega⟩
  subst e1
  have hf := fInv_len n xs
  have hA0 : Below w.heap.size w w := (Below.refl w.heap.size w)
  have hB0 : w.heap.size ≤ w.heap.size := hA0.size
  have hb0 := Below.refl w.heap.size w
  have hS0 : St w w.heap.size [] := Nat.le_refl _
  have g1 := h1.below hA0 (Nat.le_refl _)
  clear h1
  go_enter Try.func3, Try.ntmps3
  go_wp2_with fail
  refine (toInts_any _ _ _ _ (g1.below hb0 hB0) (Nat.le_trans hB0 hb0.size) (by omega)).mono ?_
  rintro e w1 ⟨r1, rfl, ho1, hq⟩
  have hb1 := hb0.trans (hq.mono hb0.size)
  have hS1 := hS0.below hq
  clear hb0 hS0 hq
  go_wp2_with fail
  refine (spec_FreeInverse_any _ xs _ n _ (ho1.sl (Nat.le_refl _)) (Nat.le_refl _)).mono ?_
  rintro e w2 ⟨q2, rfl, ho2, hq⟩
  have hb2 := hb1.trans (hq.mono hb1.size)
  have hS2 := hS1.join hq (st_ow ho2 hq)
  clear ho2
  clear hb1 hS1 hq
  go_wp2_with fail
  clear ho1
  refine (toInts_any _ _ _ _ (g1.below hb2 hB0) (Nat.le_trans hB0 hb2.size) (by omega)).mono ?_
  rintro e w3 ⟨r3, rfl, ho3, hq⟩
  have hb3 := hb2.trans (hq.mono hb2.size)
  have hS3 := hS2.join hq (st_ow ho3 hq)
  clear ho3
  clear hb2 hS2 hq
  go_wp2_with fail
  refine (impl_FreeInverse_any _ xs _ n _ (St.rd [ow q2 (fInv n xs)] [] hS3) (Nat.le_refl _)).mono ?_
  rintro e w4 ⟨q4, rfl, ho4, hq⟩
  have hb4 := hb3.trans (hq.mono hb3.size)
  have hS4 := hS3.join hq (st_ow ho4 hq)
  clear ho4
  clear hb3 hS3 hq
  go_wp2_with fail
  refine (eqInts_yes (St.rd [ow q2 (fInv n xs), ow r3 (xs)] [] hS4) (St.rd [] [ow r3 (xs), ow q4 (fInv n xs)] hS4) rfl).mono ?_
  rintro e w5 ⟨rfl, hq⟩
  have hb5 := hb4.trans (hq.mono hb4.size)
  have hS5 := hS4.below hq
  clear hb4 hS4 hq
  go_wp2_with fail
  refine (toInts_any _ _ _ _ (g1.below hb5 hB0) (Nat.le_trans hB0 hb5.size) (by omega)).mono ?_
  rintro e w6 ⟨r6, rfl, ho6, hq⟩
  have hb6 := hb5.trans (hq.mono hb5.size)
  have hS6 := hS5.below hq
  clear hb5 hS5 hq
  go_wp2_with fail
  refine (eqInts_yes (St.rd [ow q2 (fInv n xs)] [ow q4 (fInv n xs)] hS6) (ho6.sl (Nat.le_refl _)) rfl).mono ?_
  rintro e w7 ⟨rfl, hq⟩
  have hb7 := hb6.trans (hq.mono hb6.size)
  have hS7 := hS6.below hq
  clear ho6 hb6 hS6 hq
  go_wp2_with fail
  obtain ⟨lo8, hi8, l1, l2, l3, hit, hset⟩ := hS7.at_ [ow q2 (fInv n xs)] (ow r3 (xs)) [ow q4 (fInv n xs)]
  have HSET := Lib.hid hset
  clear hset
  refine (markInts_any _ _ _ _ (1) _ hit (by omega) (by omega) (by omega)).mono ?_
  rintro e w8 ⟨rfl, hit2, hch⟩
  have hb8 := hb7.trans (hch.below l1 hb7.size)
  have hS8 := HSET.out (ow r3 (countFrom (1) (xs).length)) w8 hit2 hch
  clear hb7 hS7 HSET hit hit2 hch l1 l2 l3
  go_wp2_with fail
  refine (eqInts_yes (St.rd [ow q2 (fInv n xs), ow r3 (countFrom (1) (xs).length)] [] hS8) (St.rd [] [ow r3 (countFrom (1) (xs).length), ow q4 (fInv n xs)] hS8) rfl).mono ?_
  rintro e w9 ⟨rfl, hq⟩
  have hb9 := hb8.trans (hq.mono hb8.size)
  have hS9 := hS8.below hq
  clear hb8 hS8 hq
  go_wp2_with fail
  obtain ⟨lo10, hi10, l1, l2, l3, hit, hset⟩ := hS9.at_ [ow q2 (fInv n xs), ow r3 (countFrom (1) (xs).length)] (ow q4 (fInv n xs)) []
  have HSET := Lib.hid hset
  clear hset
  refine (markInts_any _ _ _ _ (1) _ hit (by omega) (by omega) (by omega)).mono ?_
  rintro e w10 ⟨rfl, hit2, hch⟩
  have hb10 := hb9.trans (hch.below l1 hb9.size)
  have hS10 := HSET.out (ow q4 (countFrom (1) (fInv n xs).length)) w10 hit2 hch
  clear hb9 hS9 HSET hit hit2 hch l1 l2 l3
  go_wp2_with fail
  refine (heldInts_quiet ((St.rd [ow q2 (fInv n xs), ow r3 (countFrom (1) (xs).length)] [] hS10)) (by omega) (by omega) (by omega)).mono ?_
  rintro e w11 ⟨rfl, hq⟩
  have hb11 := hb10.trans (hq.mono hb10.size)
  have hS11 := hS10.below hq
  clear hb10 hS10 hq
  go_wp2_with fail
  refine (toInts_any _ _ _ _ (g1.below hb11 hB0) (Nat.le_trans hB0 hb11.size) (by omega)).mono ?_
  rintro e w12 ⟨r12, rfl, ho12, hq⟩
  have hb12 := hb11.trans (hq.mono hb11.size)
  have hS12 := hS11.below hq
  clear hb11 hS11 hq
  go_wp2_with fail
  refine (impl_FreeInverse_any _ xs _ n _ (ho12.sl (Nat.le_refl _)) (Nat.le_refl _)).mono ?_
  rintro e w13 ⟨q13, rfl, ho13, hq⟩
  have hb13 := hb12.trans (hq.mono hb12.size)
  have hS13 := hS12.join hq (st_ow ho13 hq)
  clear ho13
  clear hb12 hS12 hq
  go_wp2_with fail
  clear ho12
  refine (eqInts_yes (St.rd [ow q2 (fInv n xs), ow r3 (countFrom (1) (xs).length), ow q4 (countFrom (1) (fInv n xs).length)] [] hS13) (St.rd [] [ow r3 (countFrom (1) (xs).length), ow q4 (countFrom (1) (fInv n xs).length), ow q13 (fInv n xs)] hS13) rfl).mono ?_
  rintro e w14 ⟨rfl, hq⟩
  have hb14 := hb13.trans (hq.mono hb13.size)
  have hS14 := hS13.below hq
  clear hb13 hS13 hq
  go_wp2_with fail
  refine (heldInts_quiet ((St.rd [ow q2 (fInv n xs), ow r3 (countFrom (1) (xs).length)] [ow q13 (fInv n xs)] hS14)) (by omega) (by omega) (by omega)).mono ?_
  rintro e w15 ⟨rfl, hq⟩
  have hb15 := hb14.trans (hq.mono hb14.size)
  have hS15 := hS14.below hq
  clear hb14 hS14 hq
  go_wp2_with fail
  go_ret
  exact ⟨rfl, hA0.trans (hb15.mono hB0)⟩

set_option maxRecDepth 100000 in
theorem lifted (os : Os) (started : os.Started) (H : Type) (enc : TypeId × Value → H) :
    ReturnsInHanded {} Try.checked os 3 .any (Rows.fnExactFreeInverseSpec.pre6 enc Try.prog Try.f3 Rows.fnExactFreeInverseRow.domain false) (Rows.fnExactFreeInverseSpec.post enc Try.prog Try.f3 false true false false) := by
  refine returnsInHanded_of_change (C := Try.checked) own_knob started (by kernel_rfl) Try.func3
    (ChangeSpec.witness6 (enc := enc) (C := Try.checked) false ⟨#[], #[.int .i64 0, .slice none 0 0], []⟩ 8 (by kernel_rfl) (by kernel_rfl) (by kernel_rfl) (by kernel_rfl)) ?_
  intro W base args ds gs before hval0 hW hcnd _
  have hval : ∀ (j : Nat) t v, Try.f3.params[j]? = some t → args[j]? = some v → Value.okWide Try.prog W .any base t v := hval0
  have hW' := hW
  obtain ⟨p, q, hA0, hV, rfl, hfz, hnd⟩ := hW
  have hA : DataW.TrodAll enc Try.prog W 0 (fun _ => true) true Try.f3.params.toList args.toList ds p := hA0
  rw [Try.params3] at hA hval
  obtain ⟨v0, vs0, d0, ds0, p0, q0, hargs, rfl, rfl, h0, r0⟩ := trodAll_cons hA
  obtain ⟨v1, vs1, d1, ds1, p1, q1, rfl, rfl, rfl, h1, r1⟩ := trodAll_cons r0
  obtain ⟨rfl, rfl, rfl⟩ := trodAll_nil r1
  obtain rfl : args = #[v0, v1] := by cases args; simp_all
  obtain ⟨rfl, rfl⟩ := trodVars_none hV
  have k0 := h0
  have lt0 : ∀ x ∈ p0, x.block < W.heap.size := by obtain ⟨m, hm⟩ := k0; exact DataW.trod_lt m _ _ _ hm
  have k1 := h1
  have lt1 : ∀ x ∈ p1, x.block < W.heap.size := by obtain ⟨m, hm⟩ := k1; exact DataW.trod_lt m _ _ _ hm
  obtain ⟨n, rfl, b0⟩ := open_I (hval 0 2 v0 rfl rfl) h0
  obtain ⟨xs, s1, b1⟩ := open_Sl (hval 1 22 v1 rfl rfl) h1
  clear hA0 hval0
  refine (walk n v1 xs W b0 s1 b1).mono fun e W' ⟨he, bel⟩ => ?_
  subst he
  exact ⟨_, rfl, _, _, _, [], _, [], hW', trodAll_mk1 (shut_bool Try.underlying4 _), (trodAll_cons_mk (Below.trod laid_out (by kernel_rfl) (of_decide_eq_true (by kernel_rfl)) k0 bel lt0) (trodAll_cons_mk (Below.trod laid_out (by kernel_rfl) (of_decide_eq_true (by kernel_rfl)) k1 bel lt1) trodAll_mk0)), rfl, bel.frame _, fun h => by cases h⟩

/-- The statement. -/
theorem proved : Rows.FnExactFreeInverseSaid :=
  OpenClaim.holds_of_wide 3 Try.f3 rfl rfl rfl rfl rfl rfl rfl ⟨rfl, rfl, rfl, rfl, rfl⟩ rfl rfl rfl rfl rfl (by kernel_rfl) Try.func3 (by kernel_rfl)
    (of_decide_eq_true (by kernel_rfl)) (by unfold Func.isWrapper; first | (rw [if_pos (by decide +kernel)]; kernel_rfl) | (rw [if_neg (by decide +kernel)]; exact ⟨rfl, rfl⟩))
    (fun os started H enc _ => lifted os started H enc)
#print axioms proved
end Go.Proofs.Ytphbmdoeaebhnaa.fnExactFreeInverse
