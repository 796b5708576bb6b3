/-
  Proved here: for every input the law FnHandles returns true, and the argument reads behind the call as it read before. No condition.
-/
import Derived.Test.YtcinnbkhnonijaaDb8
import Derived.Test.YtcinnbkhnonijaaFpl
import Derived.ProofKit
import Derived.OpenShut
import Derived.ShutString
import Derived.ChangeOld
import Derived.Below
import Derived.Deep.RegionHeld3
namespace Go.Proofs.Ytcinnbkhnonijaa.fnHandles
set_option maxRecDepth 10000
open Go.ChangeShapes Go.WideShapes Go.ChangeAt Go.RowKit
set_option linter.unusedVariables false

set_option maxRecDepth 100000 in
set_option maxHeartbeats 4000000 in
theorem walk (v : Value) (bs : List Int) (w : World) (h : SlB w w.heap.size v bs) :
    Calls Try.prog 4 #[v] w fun e w' => e = .returned (.bool true) ∧ Below w.heap.size w w' := by
  by_cases hlong : 1048576 < (bs.length : Int)
  · have hlb : decide (1048576 < (bs.length : Int)) = true := by simp [hlong]
    go_enter Try.func4, Try.ntmps4
    go_wp2_with (go_at_call 7; refine (b10Long_any v bs _ _ h).mono ?_; rintro e w' ⟨rfl, rfl⟩)
    go_ret
    exact ⟨rfl, Below.refl _ _⟩
  · have hlb : decide (1048576 < (bs.length : Int)) = false := by simp; omega
    clear hlong
    go_enter Try.func4, Try.ntmps4
    go_wp2_with (go_at_call 7; refine (b10Long_any v bs _ _ h).mono ?_; rintro e w' ⟨rfl, rfl⟩)
    refine (DrawHandleTrivial_any v bs _ h).mono ?_
    rintro e w1 ⟨n, r, xs, b, rfl, hI1, hl1, hbb, hb1⟩
    obtain ⟨A, c, rfl, -⟩ := id hI1
    clear h
    have ha3 := al1 w1 (.cells #[.int .i64 n, .slice A xs.length c] 26)
    have hu4 := alloc_at_ w1 (.cells #[.int .i64 n, .slice A xs.length c] 26)
    have hz1 := hb1.size
    have HB4 := Lib.hid (hb1.trans (ha3.mono hz1))
    have hs4 := (hI1.below ha3 (Nat.le_refl _)).sl (Nat.le_refl _)
    clear ha3 hI1 hb1
    go_wp2_with fail
    generalize hW4 : w1.alloc (.cells #[.int .i64 n, .slice A xs.length c] 26) = w4 at *
    have hg4 := (box2 hu4).2.2.2.2
    clear hW4
    refine (impl_HandleForm_any n _ xs b w1.heap.size w4 hs4 (by omega)).mono ?_
    rintro e w5 ⟨r5, rfl, hO5, hb5⟩
    obtain ⟨A5, c5, rfl, hfl, -⟩ := id (hO5.sl (Nat.le_refl _))
    have hz5 := hb5.size
    have hs5 := hs4.below hb5 (by omega)
    have hu5 := hb5.box hu4 (by omega)
    have HB5 := Lib.hid (HB4.out.trans (hb5.mono (by omega)))
    have hJ5 := hO5.sl (Nat.le_refl _)
    clear hs4 hu4 HB4 hb5 hO5
    obtain ⟨p0, p1, -, -, -⟩ := box2 hu5
    go_wp2_with fail
    refine (impl_HandleTrivial_any n _ xs b w1.heap.size w5 hs5 (by omega)).mono ?_
    rintro e w6 ⟨rfl, hb6⟩
    have hz6 := hb6.size
    have hs6 := hs5.below hb6 (by omega)
    have hJ6 := hJ5.below hb6 (Nat.le_refl _)
    have hu6 := hb6.box hu5 (by omega)
    have HB6 := Lib.hid (HB5.out.trans (hb6.mono (by omega)))
    clear hs5 hu5 HB5 hb6 hJ5 p0 p1
    have hfw := hfA_len n xs b
    have HE := Lib.hid (@hd_facts n xs b)
    generalize trivB (hfA n xs b) = tr at *
    generalize (hfA n xs b).1 = F at *
    generalize (hfA n xs b).2.1 = st at *
    generalize (hfA n xs b).2.2 = cd at *
    obtain ⟨p0, p1, -, -, -⟩ := box2 hu6
    have t2 : (cd != cd) = false := by simp
    by_cases hcd : cd = 0
    · obtain ⟨k0, k1, k2, k3, k4⟩ := HE.out hcd
      subst hcd
      have hq := IsTrivial_any n _ xs w1.heap.size w6 hs6 (by omega)
      rw [k3] at hq
      have HQ := Lib.hid hq
      subst k2
      have k5 : decide (b < st) = false := by simp; omega
      have k6 : decide (st < 0) = false := by simp; omega
      clear hq k3 HE k1
      have K4 := Lib.hid k4
      clear k4
      by_cases hF0 : F = []
      · subst hF0
        have t5 : (true != true) = false := rfl
        have t6 : ((0 : Int) == 0) = true := rfl
        have hfz : (0 : Int) ≤ 40 := by omega
        go_wp2_with fail
        refine HQ.out.mono ?_
        rintro e w7 ⟨rfl, hb7⟩
        have hz7 := hb7.size
        have hs7 := hs6.below hb7 (by omega)
        have hJ7 := hJ6.below hb7 (by omega)
        have hu7 := hb7.box hu6 (by omega)
        have HB7 := Lib.hid (HB6.out.trans (hb7.mono (by omega)))
        clear hs6 hJ6 hu6 HB6 hb7 HQ p0 p1
        obtain ⟨p0, p1, -, -, hg7⟩ := box2 hu7
        have ha8 := al1 w7 (.cells #[.int .i64 n, .slice A5 0 c5] 26)
        have hv8 := alloc_at_ w7 (.cells #[.int .i64 n, .slice A5 0 c5] 26)
        have hs8 := hs7.below ha8 (by omega)
        have hJ8 := hJ7.below ha8 (by omega)
        have hu8 := ha8.box hu7 (by omega)
        have HB8 := Lib.hid (HB7.out.trans (ha8.mono (by omega)))
        have hz8 := ha8.size
        clear hs7 hJ7 HB7 ha8 hu7
        have h40i : ¬ (40 : Int) < (0 : Int) := by omega
        obtain ⟨m0, m1, m2⟩ := K4.out (by simp)
        go_wp2_with fail
        generalize hW8 : w7.alloc (.cells #[.int .i64 n, .slice A5 0 c5] 26) = w8 at *
        clear hW8 p0 p1
        have hq1 := spec_FirstHandle_any n _ [] w5.heap.size w8 hJ8 (by omega)
        rw [m1] at hq1
        have hgv := (box2 hv8).2.2.2.2
        refine hq1.mono ?_
        clear hq1
        rintro e w9 ⟨rfl, hb9⟩
        have hz9 := hb9.size
        have hs9 := hs8.below hb9 (by omega)
        have hJ9 := hJ8.below hb9 (by omega)
        have hu9 := hb9.box hu8 (by omega)
        have hv9 := hb9.box hv8 (by omega)
        have HB9 := Lib.hid (HB8.out.trans (hb9.mono (by omega)))
        clear hs8 hJ8 hu8 hv8 HB8 hb9
        have ha10 := al1 w9 (.cells #[.int .i64 (fhF n []), .int .i64 (fhT n [])] 39)
        have hs10 := hs9.below ha10 (by omega)
        have hJ10 := hJ9.below ha10 (by omega)
        have hu10 := ha10.box hu9 (by omega)
        have hv10 := ha10.box hv9 (by omega)
        have HB10 := Lib.hid (HB9.out.trans (ha10.mono (by omega)))
        have hz10 := ha10.size
        clear hs9 hJ9 hu9 hv9 HB9 ha10
        obtain ⟨p0, p1, -, -, -⟩ := box2 hu10
        obtain ⟨q0, q1, -, -, -⟩ := box2 hv10
        go_wp2_with fail
        generalize hW10 : w9.alloc (.cells #[.int .i64 (fhF n []), .int .i64 (fhT n [])] 39) = w10 at *
        clear hW10 p0 p1 q0 q1
        have hq2 := spec_ValidBraid_any n _ [] w5.heap.size w10 hJ10 (by omega)
        rw [m0] at hq2
        refine hq2.mono ?_
        clear hq2
        rintro e w11 ⟨rfl, hb11⟩
        have hz11 := hb11.size
        have hs11 := hs10.below hb11 (by omega)
        have hJ11 := hJ10.below hb11 (by omega)
        have hu11 := hb11.box hu10 (by omega)
        have hv11 := hb11.box hv10 (by omega)
        have HB11 := Lib.hid (HB10.out.trans (hb11.mono (by omega)))
        clear hs10 hJ10 hu10 hv10 HB10 hb11
        have hq3 := EqualBraids_any n n _ _ [] xs w5.heap.size w11 hJ11 (hs11.mono (by omega)) (by omega)
        rw [m2] at hq3
        have HQ3 := Lib.hid hq3
        clear hq3 hJ11 hs11
        obtain ⟨p0, p1, -, -, -⟩ := box2 hu11
        obtain ⟨q0, q1, -, -, -⟩ := box2 hv11
        clear hu11 hv11 m0 m1 m2
        go_wp2_with fail
        refine HQ3.out.mono ?_
        rintro e w12 ⟨rfl, hb12⟩
        have HB12 := Lib.hid (HB11.out.trans (hb12.mono (by omega)))
        clear HB11 hb12
        go_wp2_with fail
        go_ret
        exact ⟨rfl, HB12.out⟩
      · have hF9 : (F.length == 0) = false := by simpa using hF0
        have hF1 : ((F.length : Int) == 0) = false := by rw [← hF9, Bool.eq_iff_iff]; simp
        rw [hF9] at HQ
        have t5 : (false != false) = false := rfl
        have HF9 := Lib.hid hF9
        clear hF9
        rw [HF9.out]
        go_wp2_with fail
        refine HQ.out.mono ?_
        rintro e w7 ⟨rfl, hb7⟩
        have hz7 := hb7.size
        have hs7 := hs6.below hb7 (by omega)
        have hJ7 := hJ6.below hb7 (by omega)
        have hu7 := hb7.box hu6 (by omega)
        have HB7 := Lib.hid (HB6.out.trans (hb7.mono (by omega)))
        clear hs6 hJ6 hu6 HB6 hb7 HQ p0 p1
        obtain ⟨p0, p1, -, -, hg7⟩ := box2 hu7
        have ha8 := al1 w7 (.cells #[.int .i64 n, .slice A5 F.length c5] 26)
        have hv8 := alloc_at_ w7 (.cells #[.int .i64 n, .slice A5 F.length c5] 26)
        have hs8 := hs7.below ha8 (by omega)
        have hJ8 := hJ7.below ha8 (by omega)
        have hu8 := ha8.box hu7 (by omega)
        have HB8 := Lib.hid (HB7.out.trans (ha8.mono (by omega)))
        have hz8 := ha8.size
        clear hs7 hJ7 HB7 ha8 hu7
        by_cases h40 : 40 < F.length
        · have h40i : (40 : Int) < (F.length : Int) := by omega
          clear hv8 hs8 hJ8 hu8
          go_wp2_with fail
          go_ret
          exact ⟨rfl, HB8.out⟩
        · have h40i : ¬ (40 : Int) < (F.length : Int) := by omega
          obtain ⟨m0, m1, m2⟩ := K4.out (by omega)
          go_wp2_with fail
          generalize hW8 : w7.alloc (.cells #[.int .i64 n, .slice A5 F.length c5] 26) = w8 at *
          clear hW8 p0 p1
          have hq1 := spec_FirstHandle_any n _ F w5.heap.size w8 hJ8 (by omega)
          rw [m1] at hq1
          have hgv := (box2 hv8).2.2.2.2
          refine hq1.mono ?_
          clear hq1
          rintro e w9 ⟨rfl, hb9⟩
          have hz9 := hb9.size
          have hs9 := hs8.below hb9 (by omega)
          have hJ9 := hJ8.below hb9 (by omega)
          have hu9 := hb9.box hu8 (by omega)
          have hv9 := hb9.box hv8 (by omega)
          have HB9 := Lib.hid (HB8.out.trans (hb9.mono (by omega)))
          clear hs8 hJ8 hu8 hv8 HB8 hb9
          have ha10 := al1 w9 (.cells #[.int .i64 (fhF n F), .int .i64 (fhT n F)] 39)
          have hs10 := hs9.below ha10 (by omega)
          have hJ10 := hJ9.below ha10 (by omega)
          have hu10 := ha10.box hu9 (by omega)
          have hv10 := ha10.box hv9 (by omega)
          have HB10 := Lib.hid (HB9.out.trans (ha10.mono (by omega)))
          have hz10 := ha10.size
          clear hs9 hJ9 hu9 hv9 HB9 ha10
          obtain ⟨p0, p1, -, -, -⟩ := box2 hu10
          obtain ⟨q0, q1, -, -, -⟩ := box2 hv10
          go_wp2_with fail
          generalize hW10 : w9.alloc (.cells #[.int .i64 (fhF n F), .int .i64 (fhT n F)] 39) = w10 at *
          clear hW10 p0 p1 q0 q1
          have hq2 := spec_ValidBraid_any n _ F w5.heap.size w10 hJ10 (by omega)
          rw [m0] at hq2
          refine hq2.mono ?_
          clear hq2
          rintro e w11 ⟨rfl, hb11⟩
          have hz11 := hb11.size
          have hs11 := hs10.below hb11 (by omega)
          have hJ11 := hJ10.below hb11 (by omega)
          have hu11 := hb11.box hu10 (by omega)
          have hv11 := hb11.box hv10 (by omega)
          have HB11 := Lib.hid (HB10.out.trans (hb11.mono (by omega)))
          clear hs10 hJ10 hu10 hv10 HB10 hb11
          have hq3 := EqualBraids_any n n _ _ F xs w5.heap.size w11 hJ11 (hs11.mono (by omega)) (by omega)
          rw [m2] at hq3
          have HQ3 := Lib.hid hq3
          clear hq3 hJ11 hs11
          obtain ⟨p0, p1, -, -, -⟩ := box2 hu11
          obtain ⟨q0, q1, -, -, -⟩ := box2 hv11
          clear hu11 hv11 m0 m1 m2
          go_wp2_with fail
          refine HQ3.out.mono ?_
          rintro e w12 ⟨rfl, hb12⟩
          have HB12 := Lib.hid (HB11.out.trans (hb12.mono (by omega)))
          clear HB11 hb12
          go_wp2_with fail
          go_ret
          exact ⟨rfl, HB12.out⟩
    · have t4 : (cd != 0) = true := by simp [hcd]
      clear hcd HE hs6 hu6 hJ6
      go_wp2_with fail
      go_ret
      exact ⟨rfl, HB6.out⟩
set_option maxRecDepth 100000 in
theorem lifted (os : Os) (started : os.Started) (H : Type) (enc : TypeId × Value → H) :
    ReturnsInHanded {} Try.checked os 4 .any (Rows.fnHandlesSpec.pre6 enc Try.prog Try.f4 Rows.fnHandlesRow.domain false) (Rows.fnHandlesSpec.post enc Try.prog Try.f4 false true false false) := by
  refine returnsInHanded_of_change (C := Try.checked) own_knob started (by kernel_rfl) Try.func4
    (ChangeSpec.witness6 (enc := enc) (C := Try.checked) false ⟨#[], #[.slice none 0 0], []⟩ 8 (by kernel_rfl) (by kernel_rfl) (by kernel_rfl) (by kernel_rfl)) ?_
  intro W base args ds gs before hval0 hW hcnd _
  have hval : ∀ (j : Nat) t v, Try.f4.params[j]? = some t → args[j]? = some v → Value.okWide Try.prog W .any base t v := hval0
  have hW' := hW
  obtain ⟨p, q, hA0, hV, rfl, hfz, hnd⟩ := hW
  have hA : DataW.TrodAll enc Try.prog W 0 (fun _ => true) true Try.f4.params.toList args.toList ds p := hA0
  rw [Try.params4] at hA hval
  obtain ⟨v0, vs0, d0, ds0, p0, q0, hargs, rfl, rfl, h0, r0⟩ := trodAll_cons hA
  obtain ⟨rfl, rfl, rfl⟩ := trodAll_nil r0
  obtain rfl : args = #[v0] := by cases args; simp_all
  obtain ⟨rfl, rfl⟩ := trodVars_none hV
  have k0 := h0
  have lt0 : ∀ x ∈ p0, x.block < W.heap.size := by obtain ⟨m, hm⟩ := k0; exact DataW.trod_lt m _ _ _ hm
  obtain ⟨bs, s0⟩ := open_SlB (hval 0 22 v0 rfl rfl) h0
  clear hA0 hval0
  refine (walk v0 bs W s0).mono fun e W' ⟨he, bel⟩ => ?_
  subst he
  exact ⟨_, rfl, _, _, _, [], _, [], hW', trodAll_mk1 (shut_bool Try.underlying4 _), (trodAll_cons_mk (Below.trod laid_out (by kernel_rfl) (of_decide_eq_true (by kernel_rfl)) k0 bel lt0) trodAll_mk0), rfl, bel.frame _, fun h => by cases h⟩

/-- The statement. -/
theorem proved : Rows.FnHandlesSaid :=
  OpenClaim.holds_of_wide 4 Try.f4 rfl rfl rfl rfl rfl rfl rfl ⟨rfl, rfl, rfl, rfl, rfl⟩ rfl rfl rfl rfl rfl (by kernel_rfl) Try.func4 (by kernel_rfl)
    (of_decide_eq_true (by kernel_rfl)) (by unfold Func.isWrapper; first | (rw [if_pos (by decide +kernel)]; kernel_rfl) | (rw [if_neg (by decide +kernel)]; exact ⟨rfl, rfl⟩))
    (fun os started H enc _ => lifted os started H enc)
#print axioms proved
end Go.Proofs.Ytcinnbkhnonijaa.fnHandles
