/-
  Proved here: for every input the law FnExactValidPass returns true, and every argument reads behind the call as it read before. No condition.
-/
import Derived.Test.YtabnkmpjhhcadaaOpen
import Derived.Test.YtabnkmpjhhcadaaPass
import Derived.ProofKit
import Derived.OpenShut
import Derived.ShutString
import Derived.ChangeOld
import Derived.Below
namespace Go.Proofs.Ytabnkmpjhhcadaa.fnExactValidPass
open Go.ChangeShapes Go.WideShapes Go.ChangeAt Go.RowKit
open Go.ChangeMaps (open_string shut_string)
set_option linter.unusedVariables false

set_option maxRecDepth 100000 in
set_option maxHeartbeats 2000000 in
theorem walk (k0 d0 c0 r0 f0 n0 : Int) (w : World)  :
    Calls Try.prog 3 #[.agg #[.int .i64 k0, .int .i64 d0, .int .i64 c0, .int .i64 r0, .int .i64 f0, .int .i64 n0]] w fun e w' => e = .returned (.bool true) ∧ Below w.heap.size w w' := by
  have hA0 : Below w.heap.size w (w.alloc (.cells #[.int .i64 k0, .int .i64 d0, .int .i64 c0, .int .i64 r0, .int .i64 f0, .int .i64 n0] 23)) := (al1 w (.cells #[.int .i64 k0, .int .i64 d0, .int .i64 c0, .int .i64 r0, .int .i64 f0, .int .i64 n0] 23))
  have hB0 : w.heap.size ≤ (w.alloc (.cells #[.int .i64 k0, .int .i64 d0, .int .i64 c0, .int .i64 r0, .int .i64 f0, .int .i64 n0] 23)).heap.size := hA0.size
  have hb0 := Below.refl (w.alloc (.cells #[.int .i64 k0, .int .i64 d0, .int .i64 c0, .int .i64 r0, .int .i64 f0, .int .i64 n0] 23)).heap.size (w.alloc (.cells #[.int .i64 k0, .int .i64 d0, .int .i64 c0, .int .i64 r0, .int .i64 f0, .int .i64 n0] 23))
  have hS0 : St (w.alloc (.cells #[.int .i64 k0, .int .i64 d0, .int .i64 c0, .int .i64 r0, .int .i64 f0, .int .i64 n0] 23)) (w.alloc (.cells #[.int .i64 k0, .int .i64 d0, .int .i64 c0, .int .i64 r0, .int .i64 f0, .int .i64 n0] 23)).heap.size [] := Nat.le_refl _
  go_enter Try.func3, Try.ntmps3
  go_wp2_with fail
  refine (toPass_any _ _ _ _ _ _ _).mono ?_
  rintro e w1 ⟨rfl, hq⟩
  have hb1 := hb0.trans (hq.mono hb0.size)
  have hS1 := hS0.below hq
  clear hb0 hS0 hq
  obtain ⟨hc, hf⟩ := bcell hb1
  go_wp2_with fail
  clear hc hf
  refine (spec_ValidPass_any _ _ _ _ _ _ _).mono ?_
  rintro e w2 ⟨rfl, hq⟩
  have hb2 := hb1.trans (hq.mono hb1.size)
  have hS2 := hS1.below hq
  clear hb1 hS1 hq
  obtain ⟨hc, hf⟩ := bcell hb2
  go_wp2_with fail
  clear hc hf
  refine (toPass_any _ _ _ _ _ _ _).mono ?_
  rintro e w3 ⟨rfl, hq⟩
  have hb3 := hb2.trans (hq.mono hb2.size)
  have hS3 := hS2.below hq
  clear hb2 hS2 hq
  obtain ⟨hc, hf⟩ := bcell hb3
  go_wp2_with fail
  clear hc hf
  refine (impl_ValidPass_any _ _ _ _ _ _ _).mono ?_
  rintro e w4 ⟨rfl, hq⟩
  have hb4 := hb3.trans (hq.mono hb3.size)
  have hS4 := hS3.below hq
  clear hb3 hS3 hq
  obtain ⟨hc, hf⟩ := bcell hb4
  go_wp2_with fail
  clear hc hf
  go_ret
  exact ⟨rfl, hA0.trans (hb4.mono hB0)⟩

set_option maxRecDepth 100000 in
theorem lifted (os : Os) (started : os.Started) (H : Type) (enc : TypeId × Value → H) :
    ReturnsInHanded {} Try.checked os 3 .any (Rows.fnExactValidPassSpec.pre6 enc Try.prog Try.f3 Rows.fnExactValidPassRow.domain false) (Rows.fnExactValidPassSpec.post enc Try.prog Try.f3 false true false false) := by
  refine returnsInHanded_of_change (C := Try.checked) own_knob started (by kernel_rfl) Try.func3
    (ChangeSpec.witness6 (enc := enc) (C := Try.checked) false ⟨#[], #[.agg #[.int .i64 0, .int .i64 0, .int .i64 0, .int .i64 0, .int .i64 0, .int .i64 0]], []⟩ 8 (by kernel_rfl) (by kernel_rfl) (by kernel_rfl) (by kernel_rfl)) ?_
  intro W base args ds gs before hval0 hW hcnd _
  have hval : ∀ (j : Nat) t v, Try.f3.params[j]? = some t → args[j]? = some v → Value.okWide Try.prog W .any base t v := hval0
  have hW' := hW
  obtain ⟨p, q, hA0, hV, rfl, hfz, hnd⟩ := hW
  have hA : DataW.TrodAll enc Try.prog W 0 (fun _ => true) true Try.f3.params.toList args.toList ds p := hA0
  rw [Try.params3] at hA hval
  obtain ⟨v0, vs0, d0, ds0, p0, q0, hargs, rfl, rfl, h0, r0⟩ := trodAll_cons hA
  obtain ⟨rfl, rfl, rfl⟩ := trodAll_nil r0
  obtain rfl : args = #[v0] := by cases args; simp_all
  obtain ⟨rfl, rfl⟩ := trodVars_none hV
  have k0 := h0
  have lt0 : ∀ x ∈ p0, x.block < W.heap.size := by obtain ⟨m, hm⟩ := k0; exact DataW.trod_lt m _ _ _ hm
  obtain ⟨x0a, x0b, x0c, x0d, x0e, x0f, rfl, _⟩ := open_Pass (hval 0 23 v0 rfl rfl) h0
  clear hA0 hval0
  refine (walk x0a x0b x0c x0d x0e x0f W ).mono fun e W' ⟨he, bel⟩ => ?_
  subst he
  exact ⟨_, rfl, _, _, _, [], _, [], hW', trodAll_mk1 (shut_bool Try.underlying4 _), (trodAll_cons_mk (Below.trod laid_out (by kernel_rfl) (of_decide_eq_true (by kernel_rfl)) k0 bel lt0) trodAll_mk0), rfl, bel.frame _, fun h => by cases h⟩

/-- The statement. -/
theorem proved : Rows.FnExactValidPassSaid :=
  OpenClaim.holds_of_wide 3 Try.f3 rfl rfl rfl rfl rfl rfl rfl ⟨rfl, rfl, rfl, rfl, rfl⟩ rfl rfl rfl rfl rfl (by kernel_rfl) Try.func3 (by kernel_rfl)
    (of_decide_eq_true (by kernel_rfl)) (by unfold Func.isWrapper; first | (rw [if_pos (by decide +kernel)]; kernel_rfl) | (rw [if_neg (by decide +kernel)]; exact ⟨rfl, rfl⟩))
    (fun os started H enc _ => lifted os started H enc)
#print axioms proved
end Go.Proofs.Ytabnkmpjhhcadaa.fnExactValidPass
