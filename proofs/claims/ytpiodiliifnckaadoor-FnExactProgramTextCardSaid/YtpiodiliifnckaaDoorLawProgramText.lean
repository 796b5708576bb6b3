/-
  Proved here: the card of the law FnExactProgramText: for every input the law returns true, and every argument reads behind the call as it read before.
-/
import Derived.Test.YtpiodiliifnckaaDoorOpen
import Derived.Test.YtpiodiliifnckaaDoorTxq
import Derived.Test.YtpiodiliifnckaaDoorPo4
import Derived.Test.YtpiodiliifnckaaDoorTie
import Derived.Test.YtpiodiliifnckaaDoorCards
import Derived.ProofKit
import Derived.LaidMore
import Derived.OpenShut
import Derived.ShutString
import Derived.ChangeOld
import Derived.Below
import Derived.Stop.Joined
import Derived.Stop.LaidErr
import Derived.Lib.LaidTab
import Derived.SevenTiedAt
import Derived.Deep.RegionHeld3
import Derived.Deep.DeepCutAuto
namespace Go.Proofs.YtpiodiliifnckaaDoor.fnExactProgramText
set_option maxRecDepth 10000
open Go.ChangeShapes Go.WideShapes Go.ChangeAt Go.RowKit
open Go.ChangeMaps (open_string shut_string)
set_option linter.unusedVariables false

set_option maxRecDepth 100000 in
set_option maxHeartbeats 6400000 in
theorem walk (n : Int) (v0 : Value) (os : List (List Int)) {w : World} (h0 : SlR 8 w w.heap.size v0 os) (ht : Tab w) :
    Calls Tryd.prog 5 #[.int .i64 n, v0] w fun e w' => e = .returned (.bool true) ∧ Below w.heap.size w w' := by
  obtain ⟨A0, c0, e0, hl0, hm0⟩ : ∃ A c, v0 = .slice A os.length c ∧ os.length ≤ c ∧ c ≤ 9223372036854775807 := by obtain ⟨A, c, h1, h2, h3, _⟩ := h0; simp only [maxLen] at h3; exact ⟨A, c, h1, h2, by omega⟩
  subst e0
  have H := Lib.hid h0
  have HT := Lib.hid ht
  clear h0 ht
  by_cases z0 : (1048576 : Int) < os.length
  · go_enter Tryd.func5, Tryd.ntmps5
    go_wp2_with fail
    refine (szOps_no H.out (by omega) (by omega) z0).mono ?_
    rintro e w1 ⟨rfl, hq⟩
    have HB1 := Lib.hid hq
    clear hq
    go_wp2_with fail
    go_ret
    exact ⟨rfl, HB1.out⟩
  have zl0 : (os.length : Int) ≤ 1048576 := by omega
  go_enter Tryd.func5, Tryd.ntmps5
  go_wp2_with fail
  refine (szOps_yes H.out (by omega) (by omega) (by omega)).mono ?_
  rintro e w1 ⟨rfl, hq⟩
  have HB1 := Lib.hid hq
  clear hq
  go_wp2_with fail
  refine (toOps_any (H.out.below HB1.out (Nat.le_refl _)) HB1.out.size (by omega)).mono ?_
  rintro e w2 ⟨q2, rfl, ho2, hq⟩
  have HB2 := Lib.hid (HB1.out.trans (hq.mono HB1.out.size))
  have HS2 := Lib.hid (ho2.sl (Nat.le_refl _))
  obtain ⟨A2, c2, rfl, -⟩ := id HS2.out
  clear hq HB1 ho2
  go_wp2_with fail
  refine (spec_ProgramText_any (n := n) HS2.out (Nat.le_refl _)).mono ?_
  rintro e w3 ⟨rfl, hq⟩
  have HB3 := Lib.hid (HB2.out.trans (hq.mono HB2.out.size))
  clear hq HB2 HS2
  go_wp2_with fail
  refine (toOps_any (H.out.below HB3.out (Nat.le_refl _)) HB3.out.size (by omega)).mono ?_
  rintro e w4 ⟨q4, rfl, ho4, hq⟩
  have HB4 := Lib.hid (HB3.out.trans (hq.mono HB3.out.size))
  have HS4 := Lib.hid (ho4.sl (Nat.le_refl _))
  obtain ⟨A4, c4, rfl, -⟩ := id HS4.out
  clear hq HB3 ho4
  go_wp2_with fail
  refine (impl_ProgramText_any (n := n) HS4.out (Nat.le_refl _) (HT.out.below HB4.out)).mono ?_
  rintro e w5 ⟨rfl, hq⟩
  have HB5 := Lib.hid (HB4.out.trans (hq.mono HB4.out.size))
  have HS5 := Lib.hid (HS4.out.below hq (Nat.le_refl _))
  have hz5 := hq.size
  clear hq HB4 HS4
  go_wp2_with fail
  refine (toOps_any (H.out.below HB5.out (Nat.le_refl _)) HB5.out.size (by omega)).mono ?_
  rintro e w6 ⟨q6, rfl, ho6, hq⟩
  have HB6 := Lib.hid (HB5.out.trans (hq.mono HB5.out.size))
  have HS6 := Lib.hid (ho6.sl (Nat.le_refl _))
  obtain ⟨A6, c6, rfl, -⟩ := id HS6.out
  have HS7 := Lib.hid (HS5.out.below hq hz5)
  have hz6 := hq.size
  clear hq HB5 ho6 HS5
  go_wp2_with fail
  refine (eqOps_yes HS7.out HS6.out (Nat.le_trans hz5 hz6) (Nat.le_refl _)).mono ?_
  rintro e w7 ⟨rfl, hq⟩
  have HB7 := Lib.hid (HB6.out.trans (hq.mono HB6.out.size))
  clear hq HB6
  go_wp2_with fail
  go_ret
  exact ⟨rfl, HB7.out⟩

theorem row_laid : Rows.fnExactProgramTextRow.laid = [("math/bits.deBruijn32tab", Rows.laid_math_bits_deBruijn32tab), ("math/bits.deBruijn64tab", Rows.laid_math_bits_deBruijn64tab), ("internal/strconv.uint64pow10", Rows.laid_internal_strconv_uint64pow10)] := rfl
set_option maxRecDepth 100000 in
/-- The door's own heap meets the condition. -/
theorem door_met (os : Os) (args : Array Value) : laidMetH Tryd.prog Rows.fnExactProgramTextRow.laid ((World.doorLaid Tryd.prog 72 os).forCall (fun _ _ => 0) ⟨#[], args, []⟩).memory :=
  laidMetH_of_parts3 (fuel := 8) (laidMet_of_run' 8 (by kernel_rfl) (by kernel_rfl)) (by kernel_rfl) (by kernel_rfl)
set_option maxRecDepth 100000 in
theorem tab_of {W : World} (h : laidMetH Tryd.prog Rows.fnExactProgramTextRow.laid W) : Tab W := by
  rw [MakeChecks.laidMetH_plain _ _ _ (by kernel_rfl), row_laid] at h
  have h2 : laidMet Tryd.prog (("internal/strconv.uint64pow10", Lib.tabData .u64 Lib.pow10Tab) :: []) W := h.tail.tail
  exact Lib.tabIs_of_head (g := 0) (t := 112) (e := 102) (n := 20) (by kernel_rfl) (by kernel_rfl) (by kernel_rfl) (by kernel_rfl) (by kernel_rfl) (by kernel_rfl) h2
set_option maxRecDepth 100000 in
theorem lifted (os : Os) (started : os.Started) (H : Type) (enc : TypeId × Value → H) :
    ReturnsInHanded {} Tryd.checked os 5 .any (fun w args => (Rows.fnExactProgramTextSpec.pre enc Tryd.prog Tryd.f5 [] false w args ∧ laidMetH Tryd.prog Rows.fnExactProgramTextRow.laid w) ∧ sizedMet enc Tryd.prog Tryd.f5 (OpenSpec.ofChange Rows.fnExactProgramTextSpec) false w args)
      (Rows.fnExactProgramTextSpec.post enc Tryd.prog Tryd.f5 false true false false) := by
  refine returnsInHanded_of_change_and (C := Tryd.checked) (X := fun w _ => laidMetH Tryd.prog Rows.fnExactProgramTextRow.laid w) (fun _ _ _ hh h => h.of_heap hh) own_knob started (by kernel_rfl) Tryd.func5
    (ChangeSpec.witness_shaped (enc := enc) (C := Tryd.checked) (os := os) (X := fun w _ => laidMetH Tryd.prog Rows.fnExactProgramTextRow.laid w) false (World.doorLaid Tryd.prog 72 os) #[.int .i64 0, .slice none 0 0] 8 rfl (World.shaped_of_RefB (by kernel_rfl) (by kernel_rfl)) (by kernel_rfl) (by kernel_rfl) (by kernel_rfl) (door_met os _)) ?_
  intro W base args ds gs before hval0 hW _ hsz hL _
  have hval : ∀ (j : Nat) t v, Tryd.f5.params[j]? = some t → args[j]? = some v → Value.okWide Tryd.prog W .any base t v := hval0
  have hW' := hW
  obtain ⟨p, q, hA0, hV, rfl, hfz, hnd⟩ := hW
  have hA : DataW.TrodAll enc Tryd.prog W 0 (fun _ => true) true Tryd.f5.params.toList args.toList ds p := hA0
  rw [Tryd.params5] at hA hval
  obtain ⟨v0, vs0, d0, ds0, p0, q0, hargs, rfl, rfl, h0, r0⟩ := trodAll_cons hA
  obtain ⟨v1, vs1, d1, ds1, p1, q1, rfl, rfl, rfl, h1, r1⟩ := trodAll_cons r0
  obtain ⟨rfl, rfl, rfl⟩ := trodAll_nil r1
  obtain rfl : args = #[v0, v1] := by cases args; simp_all
  obtain ⟨rfl, rfl⟩ := trodVars_none hV
  have k0 := h0
  have lt0 : ∀ x ∈ p0, x.block < W.heap.size := by obtain ⟨m, hm⟩ := k0; exact DataW.trod_lt m _ _ _ hm
  have k1 := h1
  have lt1 : ∀ x ∈ p1, x.block < W.heap.size := by obtain ⟨m, hm⟩ := k1; exact DataW.trod_lt m _ _ _ hm
  obtain ⟨n, rfl, _⟩ := open_I (hval 0 2 v0 rfl rfl) h0
  obtain ⟨os, s0, b0⟩ := open_SlO (hval 1 38 v1 rfl rfl) h1
  have hT := tab_of hL
  clear hA0 hval0
  refine (walk n v1 os s0 hT).mono fun e W' ⟨he, bel⟩ => ?_
  subst he
  exact ⟨_, rfl, _, _, _, [], _, [], hW', trodAll_mk1 (shut_bool Tryd.underlying4 _), (trodAll_cons_mk (Below.trod laid_out (by kernel_rfl) (of_decide_eq_true (by kernel_rfl)) k0 bel lt0) (trodAll_cons_mk (Below.trod laid_out (by kernel_rfl) (of_decide_eq_true (by kernel_rfl)) k1 bel lt1) trodAll_mk0)), rfl, bel.frame _, fun h => by cases h⟩

/-- The row. -/
theorem row_holds : Rows.FnExactProgramTextSaid :=
  OpenClaim.holds_of_wide 5 Tryd.f5 rfl rfl rfl rfl rfl rfl rfl ⟨rfl, rfl, rfl, rfl, rfl⟩ rfl rfl rfl rfl rfl (by kernel_rfl) Tryd.func5 (by kernel_rfl)
    (of_decide_eq_true (by kernel_rfl)) (by unfold Func.isWrapper; first | (rw [if_pos (by decide +kernel)]; kernel_rfl) | (rw [if_neg (by decide +kernel)]; exact ⟨rfl, rfl⟩))
    (fun os started H enc _ => lifted os started H enc)
/-- The card. -/
theorem proved : Rows.FnExactProgramTextCardSaid :=
  Claim7.holds_tied_plain_at .later [] [.data, .data, .data] true (true, "99fc03cb0b473d211328585e0806f8e8d446f5e166bf798ae92649e7be8a05fa") true
    row_holds (fun _ h => by cases h) (by kernel_rfl) (fun _ h => by cases h) fnExactProgramText_row_tie rfl ⟨rfl, rfl⟩ (by kernel_rfl) rfl
    (fun f fn hf hfn => by
      obtain rfl : f = 5 := Option.some.inj ((show Tryd.prog.funcNamed "loop.example/g00856/laws.FnExactProgramText" = some 5 by kernel_rfl).symm.trans hf) |>.symm
      obtain rfl : fn = Tryd.f5 := (Option.some.inj (Tryd.func5.symm.trans hfn)).symm
      exact ⟨by kernel_rfl, fun j t ht => by
        have hm : t ∈ Tryd.f5.params := Array.mem_of_getElem? ht
        have hall : (Tryd.f5.params.toList.all fun u => !Tryd.prog.wantsStandIn u) = true := by kernel_rfl
        exact (show Tryd.prog.wantsStandIn t = false by simpa using List.all_eq_true.1 hall t (Array.mem_toList_iff.2 hm))⟩)
    (by kernel_rfl)
#print axioms proved
end Go.Proofs.YtpiodiliifnckaaDoor.fnExactProgramText
