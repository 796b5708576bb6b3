/-
  Proved here: for every input the law FnExactReadFree returns true, and every argument reads behind the call as it read before. No condition.
-/
import Derived.Test.YtabnkmpjhhcadaaOpen
import Derived.Test.YtabnkmpjhhcadaaRead2
import Derived.ProofKit
import Derived.OpenShut
import Derived.ShutString
import Derived.ChangeOld
import Derived.Below
namespace Go.Proofs.Ytabnkmpjhhcadaa.fnExactReadFree
open Go.ChangeShapes Go.WideShapes Go.ChangeAt Go.RowKit
open Go.ChangeMaps (open_string shut_string)
set_option linter.unusedVariables false

set_option maxRecDepth 100000 in
set_option maxHeartbeats 2000000 in
theorem walk (n : Int) (s : ByteArray) (w : World) (b0 : R64 n) (b1 : s.size ≤ maxLen) :
    Calls Try.prog 8 #[.int .i64 n, .string s] w fun e w' => e = .returned (.bool true) ∧ Below w.heap.size w w' := by
  by_cases z1 : (s.size : Int) ≤ 1048576
  rotate_left
  · have z1' : 1048576 < (s.size : Int) := by omega
    go_enter Try.func8, Try.ntmps8
    go_wp2
    go_ret
    exact ⟨rfl, Below.refl _ _⟩
  have hf := readRes_len n s
  have hA0 : Below w.heap.size w w := (Below.refl w.heap.size w)
  have hB0 : w.heap.size ≤ w.heap.size := hA0.size
  have hb0 := Below.refl w.heap.size w
  have hS0 : St w w.heap.size [] := Nat.le_refl _
  go_enter Try.func8, Try.ntmps8
  go_wp2_with fail
  refine (spec_ReadFree_any s n _ (by omega)).mono ?_
  rintro e w1 ⟨q1, rfl, ho1, hq⟩
  have hb1 := hb0.trans (hq.mono hb0.size)
  have hS1 := hS0.join hq (st_ow ho1 hq)
  clear ho1
  clear hb0 hS0 hq
  go_wp2_with fail
  refine (impl_ReadFree_any s n _ (by omega)).mono ?_
  rintro e w2 ⟨q2, rfl, ho2, hq⟩
  have hb2 := hb1.trans (hq.mono hb1.size)
  have hS2 := hS1.join hq (st_ow ho2 hq)
  clear ho2
  clear hb1 hS1 hq
  go_wp2_with fail
  refine (eqInts_yes (St.rd [ow q1 (readRes n s)] [] hS2) (St.rd [] [ow q2 (readRes n s)] hS2) rfl).mono ?_
  rintro e w3 ⟨rfl, hq⟩
  have hb3 := hb2.trans (hq.mono hb2.size)
  have hS3 := hS2.below hq
  clear hb2 hS2 hq
  go_wp2_with fail
  obtain ⟨lo4, hi4, l1, l2, l3, hit, hset⟩ := hS3.at_ [ow q1 (readRes n s)] (ow q2 (readRes n s)) []
  have HSET := Lib.hid hset
  clear hset
  refine (markInts_any _ _ _ _ (1) _ hit (by omega) (by omega) (by omega)).mono ?_
  rintro e w4 ⟨rfl, hit2, hch⟩
  have hb4 := hb3.trans (hch.below l1 hb3.size)
  have hS4 := HSET.out (ow q2 (countFrom (1) (readRes n s).length)) w4 hit2 hch
  clear hb3 hS3 HSET hit hit2 hch l1 l2 l3
  go_wp2_with fail
  refine (heldInts_quiet ((St.rd [ow q1 (readRes n s)] [] hS4)) (by omega) (by omega) (by omega)).mono ?_
  rintro e w5 ⟨rfl, hq⟩
  have hb5 := hb4.trans (hq.mono hb4.size)
  have hS5 := hS4.below hq
  clear hb4 hS4 hq
  go_wp2_with fail
  refine (impl_ReadFree_any s n _ (by omega)).mono ?_
  rintro e w6 ⟨q6, rfl, ho6, hq⟩
  have hb6 := hb5.trans (hq.mono hb5.size)
  have hS6 := hS5.join hq (st_ow ho6 hq)
  clear ho6
  clear hb5 hS5 hq
  go_wp2_with fail
  refine (eqInts_yes (St.rd [ow q1 (readRes n s), ow q2 (countFrom (1) (readRes n s).length)] [] hS6) (St.rd [] [ow q2 (countFrom (1) (readRes n s).length), ow q6 (readRes n s)] hS6) rfl).mono ?_
  rintro e w7 ⟨rfl, hq⟩
  have hb7 := hb6.trans (hq.mono hb6.size)
  have hS7 := hS6.below hq
  clear hb6 hS6 hq
  go_wp2_with fail
  refine (heldInts_quiet ((St.rd [ow q1 (readRes n s)] [ow q6 (readRes n s)] hS7)) (by omega) (by omega) (by omega)).mono ?_
  rintro e w8 ⟨rfl, hq⟩
  have hb8 := hb7.trans (hq.mono hb7.size)
  have hS8 := hS7.below hq
  clear hb7 hS7 hq
  go_wp2_with fail
  go_ret
  exact ⟨rfl, hA0.trans (hb8.mono hB0)⟩

set_option maxRecDepth 100000 in
theorem lifted (os : Os) (started : os.Started) (H : Type) (enc : TypeId × Value → H) :
    ReturnsInHanded {} Try.checked os 8 .any (Rows.fnExactReadFreeSpec.pre6 enc Try.prog Try.f8 Rows.fnExactReadFreeRow.domain false) (Rows.fnExactReadFreeSpec.post enc Try.prog Try.f8 false true false false) := by
  refine returnsInHanded_of_change (C := Try.checked) own_knob started (by kernel_rfl) Try.func8
    (ChangeSpec.witness6 (enc := enc) (C := Try.checked) false ⟨#[], #[.int .i64 0, .string ByteArray.empty], []⟩ 8 (by kernel_rfl) (by kernel_rfl) (by kernel_rfl) (by kernel_rfl)) ?_
  intro W base args ds gs before hval0 hW hcnd _
  have hval : ∀ (j : Nat) t v, Try.f8.params[j]? = some t → args[j]? = some v → Value.okWide Try.prog W .any base t v := hval0
  have hW' := hW
  obtain ⟨p, q, hA0, hV, rfl, hfz, hnd⟩ := hW
  have hA : DataW.TrodAll enc Try.prog W 0 (fun _ => true) true Try.f8.params.toList args.toList ds p := hA0
  rw [Try.params8] at hA hval
  obtain ⟨v0, vs0, d0, ds0, p0, q0, hargs, rfl, rfl, h0, r0⟩ := trodAll_cons hA
  obtain ⟨v1, vs1, d1, ds1, p1, q1, rfl, rfl, rfl, h1, r1⟩ := trodAll_cons r0
  obtain ⟨rfl, rfl, rfl⟩ := trodAll_nil r1
  obtain rfl : args = #[v0, v1] := by cases args; simp_all
  obtain ⟨rfl, rfl⟩ := trodVars_none hV
  have k0 := h0
  have lt0 : ∀ x ∈ p0, x.block < W.heap.size := by obtain ⟨m, hm⟩ := k0; exact DataW.trod_lt m _ _ _ hm
  have k1 := h1
  have lt1 : ∀ x ∈ p1, x.block < W.heap.size := by obtain ⟨m, hm⟩ := k1; exact DataW.trod_lt m _ _ _ hm
  obtain ⟨n, rfl, b0⟩ := open_I (hval 0 2 v0 rfl rfl) h0
  obtain ⟨s, rfl, _, _, b1⟩ := open_string Try.underlying9 (hval 1 9 v1 rfl rfl) h1
  clear hA0 hval0
  refine (walk n s W b0 b1).mono fun e W' ⟨he, bel⟩ => ?_
  subst he
  exact ⟨_, rfl, _, _, _, [], _, [], hW', trodAll_mk1 (shut_bool Try.underlying4 _), (trodAll_cons_mk (Below.trod laid_out (by kernel_rfl) (of_decide_eq_true (by kernel_rfl)) k0 bel lt0) (trodAll_cons_mk (Below.trod laid_out (by kernel_rfl) (of_decide_eq_true (by kernel_rfl)) k1 bel lt1) trodAll_mk0)), rfl, bel.frame _, fun h => by cases h⟩

/-- The statement. -/
theorem proved : Rows.FnExactReadFreeSaid :=
  OpenClaim.holds_of_wide 8 Try.f8 rfl rfl rfl rfl rfl rfl rfl ⟨rfl, rfl, rfl, rfl, rfl⟩ rfl rfl rfl rfl rfl (by kernel_rfl) Try.func8 (by kernel_rfl)
    (of_decide_eq_true (by kernel_rfl)) (by unfold Func.isWrapper; first | (rw [if_pos (by decide +kernel)]; kernel_rfl) | (rw [if_neg (by decide +kernel)]; exact ⟨rfl, rfl⟩))
    (fun os started H enc _ => lifted os started H enc)
#print axioms proved
end Go.Proofs.Ytabnkmpjhhcadaa.fnExactReadFree
