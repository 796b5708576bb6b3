/-
  Proved here: for every input the law FnExactFreeJoin returns true, and every argument reads behind the call as it read before. No condition.
-/
import Derived.Test.YtphbmdoeaebhnaaOpen
import Derived.Test.YtphbmdoeaebhnaaInv
import Derived.ProofKit
import Derived.OpenShut
import Derived.ShutString
import Derived.ChangeOld
import Derived.Below
namespace Go.Proofs.Ytphbmdoeaebhnaa.fnExactFreeJoin
open Go.ChangeShapes Go.WideShapes Go.ChangeAt Go.RowKit
open Go.ChangeMaps (open_string shut_string)
set_option linter.unusedVariables false

set_option maxRecDepth 100000 in
set_option maxHeartbeats 2000000 in
theorem walk (n : Int) (v1 : Value) (xs : List Int) (v2 : Value) (ys : List Int) (w : World) (b0 : R64 n) (h1 : Sl w w.heap.size v1 xs) (b1 : ∀ x ∈ xs, R64 x) (h2 : Sl w w.heap.size v2 ys) (b2 : ∀ x ∈ ys, R64 x) :
    Calls Try.prog 5 #[.int .i64 n, v1, v2] w fun e w' => e = .returned (.bool true) ∧ Below w.heap.size w w' := by
  by_cases z1 : (xs.length : Int) ≤ 1048576
  rotate_left
  · have z1' : 1048576 < (xs.length : Int) := by omega
    obtain ⟨A1, c1, rfl, hl1, hm1, _, _⟩ := h1
    unfold maxLen at hm1
    go_enter Try.func5, Try.ntmps5
    go_wp2
    go_ret
    exact ⟨rfl, Below.refl _ _⟩
  by_cases z2 : (ys.length : Int) ≤ 1048576
  rotate_left
  · have z2' : 1048576 < (ys.length : Int) := by omega
    obtain ⟨A1, c1, rfl, hl1, hm1, _, _⟩ := h1
    unfold maxLen at hm1
    obtain ⟨A2, c2, rfl, hl2, hm2, _, _⟩ := h2
    unfold maxLen at hm2
    go_enter Try.func5, Try.ntmps5
    go_wp2
    go_ret
    exact ⟨rfl, Below.refl _ _⟩
  obtain ⟨A1, c1, e1, hl1, hm1⟩ : ∃ A c, v1 = .slice A xs.length c ∧ xs.length ≤ c ∧ c ≤ 9223372036854775807 := by obtain ⟨A, c, h1, h2, h3, _⟩ := h1; simp only [maxLen] at h3; exact ⟨A, c, h1, h2, by omega⟩
  subst e1
  obtain ⟨A2, c2, e2, hl2, hm2⟩ : ∃ A c, v2 = .slice A ys.length c ∧ ys.length ≤ c ∧ c ≤ 9223372036854775807 := by obtain ⟨A, c, h1, h2, h3, _⟩ := h2; simp only [maxLen] at h3; exact ⟨A, c, h1, h2, by omega⟩
  subst e2
  have hf := fJoin_len n xs ys
  have hA0 : Below w.heap.size w w := (Below.refl w.heap.size w)
  have hB0 : w.heap.size ≤ w.heap.size := hA0.size
  have hb0 := Below.refl w.heap.size w
  have hS0 : St w w.heap.size [] := Nat.le_refl _
  have g1 := h1.below hA0 (Nat.le_refl _)
  clear h1
  have g2 := h2.below hA0 (Nat.le_refl _)
  clear h2
  go_enter Try.func5, Try.ntmps5
  go_wp2_with fail
  refine (toInts_any _ _ _ _ (g1.below hb0 hB0) (Nat.le_trans hB0 hb0.size) (by omega)).mono ?_
  rintro e w1 ⟨r1, rfl, ho1, hq⟩
  have hb1 := hb0.trans (hq.mono hb0.size)
  have hS1 := hS0.join hq (st_ow ho1 hq)
  clear ho1
  clear hb0 hS0 hq
  go_wp2_with fail
  refine (toInts_any _ _ _ _ (g2.below hb1 hB0) (Nat.le_trans hB0 hb1.size) (by omega)).mono ?_
  rintro e w2 ⟨r2, rfl, ho2, hq⟩
  have hb2 := hb1.trans (hq.mono hb1.size)
  have hS2 := hS1.join hq (st_ow ho2 hq)
  clear ho2
  clear hb1 hS1 hq
  go_wp2_with fail
  refine (spec_FreeJoin_any _ _ xs ys _ n _ (St.rd [] [ow r2 (ys)] hS2) (St.rd [ow r1 (xs)] [] hS2) (Nat.le_refl _)).mono ?_
  rintro e w3 ⟨q3, rfl, ho3, hq⟩
  have hb3 := hb2.trans (hq.mono hb2.size)
  have hS3 := hS2.join hq (st_ow ho3 hq)
  clear ho3
  clear hb2 hS2 hq
  go_wp2_with fail
  refine (toInts_any _ _ _ _ (g1.below hb3 hB0) (Nat.le_trans hB0 hb3.size) (by omega)).mono ?_
  rintro e w4 ⟨r4, rfl, ho4, hq⟩
  have hb4 := hb3.trans (hq.mono hb3.size)
  have hS4 := hS3.join hq (st_ow ho4 hq)
  clear ho4
  clear hb3 hS3 hq
  go_wp2_with fail
  refine (toInts_any _ _ _ _ (g2.below hb4 hB0) (Nat.le_trans hB0 hb4.size) (by omega)).mono ?_
  rintro e w5 ⟨r5, rfl, ho5, hq⟩
  have hb5 := hb4.trans (hq.mono hb4.size)
  have hS5 := hS4.join hq (st_ow ho5 hq)
  clear ho5
  clear hb4 hS4 hq
  go_wp2_with fail
  refine (impl_FreeJoin_any _ _ xs ys _ n _ (St.rd [ow r1 (xs), ow r2 (ys), ow q3 (fJoin n xs ys)] [ow r5 (ys)] hS5) (St.rd [ow r1 (xs), ow r2 (ys), ow q3 (fJoin n xs ys), ow r4 (xs)] [] hS5) (Nat.le_refl _)).mono ?_
  rintro e w6 ⟨q6, rfl, ho6, hq⟩
  have hb6 := hb5.trans (hq.mono hb5.size)
  have hS6 := hS5.join hq (st_ow ho6 hq)
  clear ho6
  clear hb5 hS5 hq
  go_wp2_with fail
  refine (eqInts_yes (St.rd [ow r1 (xs), ow r2 (ys), ow q3 (fJoin n xs ys), ow r4 (xs), ow r5 (ys)] [] hS6) (St.rd [ow r1 (xs), ow r2 (ys)] [ow r4 (xs), ow r5 (ys), ow q6 (fJoin n xs ys)] hS6) rfl).mono ?_
  rintro e w7 ⟨rfl, hq⟩
  have hb7 := hb6.trans (hq.mono hb6.size)
  have hS7 := hS6.below hq
  clear hb6 hS6 hq
  go_wp2_with fail
  refine (toInts_any _ _ _ _ (g1.below hb7 hB0) (Nat.le_trans hB0 hb7.size) (by omega)).mono ?_
  rintro e w8 ⟨r8, rfl, ho8, hq⟩
  have hb8 := hb7.trans (hq.mono hb7.size)
  have hS8 := hS7.below hq
  clear hb7 hS7 hq
  go_wp2_with fail
  refine (eqInts_yes (St.rd [ow r1 (xs), ow r2 (ys), ow q3 (fJoin n xs ys)] [ow r5 (ys), ow q6 (fJoin n xs ys)] hS8) (ho8.sl (Nat.le_refl _)) rfl).mono ?_
  rintro e w9 ⟨rfl, hq⟩
  have hb9 := hb8.trans (hq.mono hb8.size)
  have hS9 := hS8.below hq
  clear ho8 hb8 hS8 hq
  go_wp2_with fail
  refine (toInts_any _ _ _ _ (g2.below hb9 hB0) (Nat.le_trans hB0 hb9.size) (by omega)).mono ?_
  rintro e w10 ⟨r10, rfl, ho10, hq⟩
  have hb10 := hb9.trans (hq.mono hb9.size)
  have hS10 := hS9.below hq
  clear hb9 hS9 hq
  go_wp2_with fail
  refine (eqInts_yes (St.rd [ow r1 (xs), ow r2 (ys), ow q3 (fJoin n xs ys), ow r4 (xs)] [ow q6 (fJoin n xs ys)] hS10) (ho10.sl (Nat.le_refl _)) rfl).mono ?_
  rintro e w11 ⟨rfl, hq⟩
  have hb11 := hb10.trans (hq.mono hb10.size)
  have hS11 := hS10.below hq
  clear ho10 hb10 hS10 hq
  go_wp2_with fail
  obtain ⟨lo12, hi12, l1, l2, l3, hit, hset⟩ := hS11.at_ [ow r1 (xs), ow r2 (ys), ow q3 (fJoin n xs ys)] (ow r4 (xs)) [ow r5 (ys), ow q6 (fJoin n xs ys)]
  have HSET := Lib.hid hset
  clear hset
  refine (markInts_any _ _ _ _ (1) _ hit (by omega) (by omega) (by omega)).mono ?_
  rintro e w12 ⟨rfl, hit2, hch⟩
  have hb12 := hb11.trans (hch.below l1 hb11.size)
  have hS12 := HSET.out (ow r4 (countFrom (1) (xs).length)) w12 hit2 hch
  clear hb11 hS11 HSET hit hit2 hch l1 l2 l3
  go_wp2_with fail
  obtain ⟨lo13, hi13, l1, l2, l3, hit, hset⟩ := hS12.at_ [ow r1 (xs), ow r2 (ys), ow q3 (fJoin n xs ys), ow r4 (countFrom (1) (xs).length)] (ow r5 (ys)) [ow q6 (fJoin n xs ys)]
  have HSET := Lib.hid hset
  clear hset
  refine (markInts_any _ _ _ _ (1 + ((xs).length : Int)) _ hit (by omega) (by omega) (by omega)).mono ?_
  rintro e w13 ⟨rfl, hit2, hch⟩
  have hb13 := hb12.trans (hch.below l1 hb12.size)
  have hS13 := HSET.out (ow r5 (countFrom (1 + ((xs).length : Int)) (ys).length)) w13 hit2 hch
  clear hb12 hS12 HSET hit hit2 hch l1 l2 l3
  go_wp2_with fail
  refine (eqInts_yes (St.rd [ow r1 (xs), ow r2 (ys), ow q3 (fJoin n xs ys), ow r4 (countFrom (1) (xs).length), ow r5 (countFrom (1 + ((xs).length : Int)) (ys).length)] [] hS13) (St.rd [ow r1 (xs), ow r2 (ys)] [ow r4 (countFrom (1) (xs).length), ow r5 (countFrom (1 + ((xs).length : Int)) (ys).length), ow q6 (fJoin n xs ys)] hS13) rfl).mono ?_
  rintro e w14 ⟨rfl, hq⟩
  have hb14 := hb13.trans (hq.mono hb13.size)
  have hS14 := hS13.below hq
  clear hb13 hS13 hq
  go_wp2_with fail
  obtain ⟨lo15, hi15, l1, l2, l3, hit, hset⟩ := hS14.at_ [ow r1 (xs), ow r2 (ys), ow q3 (fJoin n xs ys), ow r4 (countFrom (1) (xs).length), ow r5 (countFrom (1 + ((xs).length : Int)) (ys).length)] (ow q6 (fJoin n xs ys)) []
  have HSET := Lib.hid hset
  clear hset
  refine (markInts_any _ _ _ _ (1) _ hit (by omega) (by omega) (by omega)).mono ?_
  rintro e w15 ⟨rfl, hit2, hch⟩
  have hb15 := hb14.trans (hch.below l1 hb14.size)
  have hS15 := HSET.out (ow q6 (countFrom (1) (fJoin n xs ys).length)) w15 hit2 hch
  clear hb14 hS14 HSET hit hit2 hch l1 l2 l3
  go_wp2_with fail
  refine (heldInts_quiet ((St.rd [ow r1 (xs), ow r2 (ys), ow q3 (fJoin n xs ys), ow r4 (countFrom (1) (xs).length), ow r5 (countFrom (1 + ((xs).length : Int)) (ys).length)] [] hS15)) (by omega) (by omega) (by omega)).mono ?_
  rintro e w16 ⟨rfl, hq⟩
  have hb16 := hb15.trans (hq.mono hb15.size)
  have hS16 := hS15.below hq
  clear hb15 hS15 hq
  go_wp2_with fail
  refine (toInts_any _ _ _ _ (g1.below hb16 hB0) (Nat.le_trans hB0 hb16.size) (by omega)).mono ?_
  rintro e w17 ⟨r17, rfl, ho17, hq⟩
  have hb17 := hb16.trans (hq.mono hb16.size)
  have hS17 := hS16.join hq (st_ow ho17 hq)
  clear ho17
  clear hb16 hS16 hq
  go_wp2_with fail
  refine (toInts_any _ _ _ _ (g2.below hb17 hB0) (Nat.le_trans hB0 hb17.size) (by omega)).mono ?_
  rintro e w18 ⟨r18, rfl, ho18, hq⟩
  have hb18 := hb17.trans (hq.mono hb17.size)
  have hS18 := hS17.join hq (st_ow ho18 hq)
  clear ho18
  clear hb17 hS17 hq
  go_wp2_with fail
  refine (impl_FreeJoin_any _ _ xs ys _ n _ (St.rd [ow r1 (xs), ow r2 (ys), ow q3 (fJoin n xs ys), ow r4 (countFrom (1) (xs).length), ow r5 (countFrom (1 + ((xs).length : Int)) (ys).length), ow q6 (countFrom (1) (fJoin n xs ys).length)] [ow r18 (ys)] hS18) (St.rd [ow r1 (xs), ow r2 (ys), ow q3 (fJoin n xs ys), ow r4 (countFrom (1) (xs).length), ow r5 (countFrom (1 + ((xs).length : Int)) (ys).length), ow q6 (countFrom (1) (fJoin n xs ys).length), ow r17 (xs)] [] hS18) (Nat.le_refl _)).mono ?_
  rintro e w19 ⟨q19, rfl, ho19, hq⟩
  have hb19 := hb18.trans (hq.mono hb18.size)
  have hS19 := hS18.join hq (st_ow ho19 hq)
  clear ho19
  clear hb18 hS18 hq
  go_wp2_with fail
  refine (eqInts_yes (St.rd [ow r1 (xs), ow r2 (ys), ow q3 (fJoin n xs ys), ow r4 (countFrom (1) (xs).length), ow r5 (countFrom (1 + ((xs).length : Int)) (ys).length), ow q6 (countFrom (1) (fJoin n xs ys).length), ow r17 (xs), ow r18 (ys)] [] hS19) (St.rd [ow r1 (xs), ow r2 (ys)] [ow r4 (countFrom (1) (xs).length), ow r5 (countFrom (1 + ((xs).length : Int)) (ys).length), ow q6 (countFrom (1) (fJoin n xs ys).length), ow r17 (xs), ow r18 (ys), ow q19 (fJoin n xs ys)] hS19) rfl).mono ?_
  rintro e w20 ⟨rfl, hq⟩
  have hb20 := hb19.trans (hq.mono hb19.size)
  have hS20 := hS19.below hq
  clear hb19 hS19 hq
  go_wp2_with fail
  refine (heldInts_quiet ((St.rd [ow r1 (xs), ow r2 (ys), ow q3 (fJoin n xs ys), ow r4 (countFrom (1) (xs).length), ow r5 (countFrom (1 + ((xs).length : Int)) (ys).length)] [ow r17 (xs), ow r18 (ys), ow q19 (fJoin n xs ys)] hS20)) (by omega) (by omega) (by omega)).mono ?_
  rintro e w21 ⟨rfl, hq⟩
  have hb21 := hb20.trans (hq.mono hb20.size)
  have hS21 := hS20.below hq
  clear hb20 hS20 hq
  go_wp2_with fail
  go_ret
  exact ⟨rfl, hA0.trans (hb21.mono hB0)⟩

set_option maxRecDepth 100000 in
theorem lifted (os : Os) (started : os.Started) (H : Type) (enc : TypeId × Value → H) :
    ReturnsInHanded {} Try.checked os 5 .any (Rows.fnExactFreeJoinSpec.pre6 enc Try.prog Try.f5 Rows.fnExactFreeJoinRow.domain false) (Rows.fnExactFreeJoinSpec.post enc Try.prog Try.f5 false true false false) := by
  refine returnsInHanded_of_change (C := Try.checked) own_knob started (by kernel_rfl) Try.func5
    (ChangeSpec.witness6 (enc := enc) (C := Try.checked) false ⟨#[], #[.int .i64 0, .slice none 0 0, .slice none 0 0], []⟩ 8 (by kernel_rfl) (by kernel_rfl) (by kernel_rfl) (by kernel_rfl)) ?_
  intro W base args ds gs before hval0 hW hcnd _
  have hval : ∀ (j : Nat) t v, Try.f5.params[j]? = some t → args[j]? = some v → Value.okWide Try.prog W .any base t v := hval0
  have hW' := hW
  obtain ⟨p, q, hA0, hV, rfl, hfz, hnd⟩ := hW
  have hA : DataW.TrodAll enc Try.prog W 0 (fun _ => true) true Try.f5.params.toList args.toList ds p := hA0
  rw [Try.params5] at hA hval
  obtain ⟨v0, vs0, d0, ds0, p0, q0, hargs, rfl, rfl, h0, r0⟩ := trodAll_cons hA
  obtain ⟨v1, vs1, d1, ds1, p1, q1, rfl, rfl, rfl, h1, r1⟩ := trodAll_cons r0
  obtain ⟨v2, vs2, d2, ds2, p2, q2, rfl, rfl, rfl, h2, r2⟩ := trodAll_cons r1
  obtain ⟨rfl, rfl, rfl⟩ := trodAll_nil r2
  obtain rfl : args = #[v0, v1, v2] := by cases args; simp_all
  obtain ⟨rfl, rfl⟩ := trodVars_none hV
  have k0 := h0
  have lt0 : ∀ x ∈ p0, x.block < W.heap.size := by obtain ⟨m, hm⟩ := k0; exact DataW.trod_lt m _ _ _ hm
  have k1 := h1
  have lt1 : ∀ x ∈ p1, x.block < W.heap.size := by obtain ⟨m, hm⟩ := k1; exact DataW.trod_lt m _ _ _ hm
  have k2 := h2
  have lt2 : ∀ x ∈ p2, x.block < W.heap.size := by obtain ⟨m, hm⟩ := k2; exact DataW.trod_lt m _ _ _ hm
  obtain ⟨n, rfl, b0⟩ := open_I (hval 0 2 v0 rfl rfl) h0
  obtain ⟨xs, s1, b1⟩ := open_Sl (hval 1 22 v1 rfl rfl) h1
  obtain ⟨ys, s2, b2⟩ := open_Sl (hval 2 22 v2 rfl rfl) h2
  clear hA0 hval0
  refine (walk n v1 xs v2 ys W b0 s1 b1 s2 b2).mono fun e W' ⟨he, bel⟩ => ?_
  subst he
  exact ⟨_, rfl, _, _, _, [], _, [], hW', trodAll_mk1 (shut_bool Try.underlying4 _), (trodAll_cons_mk (Below.trod laid_out (by kernel_rfl) (of_decide_eq_true (by kernel_rfl)) k0 bel lt0) (trodAll_cons_mk (Below.trod laid_out (by kernel_rfl) (of_decide_eq_true (by kernel_rfl)) k1 bel lt1) (trodAll_cons_mk (Below.trod laid_out (by kernel_rfl) (of_decide_eq_true (by kernel_rfl)) k2 bel lt2) trodAll_mk0))), rfl, bel.frame _, fun h => by cases h⟩

/-- The statement. -/
theorem proved : Rows.FnExactFreeJoinSaid :=
  OpenClaim.holds_of_wide 5 Try.f5 rfl rfl rfl rfl rfl rfl rfl ⟨rfl, rfl, rfl, rfl, rfl⟩ rfl rfl rfl rfl rfl (by kernel_rfl) Try.func5 (by kernel_rfl)
    (of_decide_eq_true (by kernel_rfl)) (by unfold Func.isWrapper; first | (rw [if_pos (by decide +kernel)]; kernel_rfl) | (rw [if_neg (by decide +kernel)]; exact ⟨rfl, rfl⟩))
    (fun os started H enc _ => lifted os started H enc)
#print axioms proved
end Go.Proofs.Ytphbmdoeaebhnaa.fnExactFreeJoin
