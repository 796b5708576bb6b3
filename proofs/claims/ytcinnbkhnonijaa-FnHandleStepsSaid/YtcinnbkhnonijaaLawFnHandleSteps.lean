/-
  Proved here: for every input the law FnHandleSteps returns true, and the argument reads behind the call as it read before. No condition.
-/
import Derived.Test.YtcinnbkhnonijaaDb4
import Derived.Test.YtcinnbkhnonijaaHst
import Derived.ProofKit
import Derived.OpenShut
import Derived.ShutString
import Derived.ChangeOld
import Derived.Below
import Derived.Deep.RegionHeld3
namespace Go.Proofs.Ytcinnbkhnonijaa.fnHandleSteps
set_option maxRecDepth 10000
open Go.ChangeShapes Go.WideShapes Go.ChangeAt Go.RowKit
set_option linter.unusedVariables false

set_option maxRecDepth 100000 in
set_option maxHeartbeats 4000000 in
theorem walk (v : Value) (bs : List Int) (w : World) (h : SlB w w.heap.size v bs) :
    Calls Try.prog 5 #[v] w fun e w' => e = .returned (.bool true) ∧ Below w.heap.size w w' := by
  by_cases hlong : 1048576 < (bs.length : Int)
  · have hlb : decide (1048576 < (bs.length : Int)) = true := by simp [hlong]
    go_enter Try.func5, Try.ntmps5
    go_wp2_with (go_at_call 7; refine (b10Long_any v bs _ _ h).mono ?_; rintro e w' ⟨rfl, rfl⟩)
    go_ret
    exact ⟨rfl, Below.refl _ _⟩
  · have hlb : decide (1048576 < (bs.length : Int)) = false := by simp; omega
    clear hlong
    go_enter Try.func5, Try.ntmps5
    go_wp2_with (go_at_call 7; refine (b10Long_any v bs _ _ h).mono ?_; rintro e w' ⟨rfl, rfl⟩)
    refine (DrawReduceHandle_any v bs _ h).mono ?_
    rintro e w1 ⟨n, r, xs, f, t, rfl, hI1, hl1, hf, hb1⟩
    obtain ⟨A, c, rfl, -⟩ := id hI1
    have hb1 := Lib.hid hb1
    clear h
    go_wp2_with fail
    have ha := al1 w1 (.cells #[.int .i64 n, .slice A xs.length c] 26)
    have hx := alloc_at_ w1 (.cells #[.int .i64 n, .slice A xs.length c] 26)
    have ha2 := al1 (w1.alloc (.cells #[.int .i64 n, .slice A xs.length c] 26)) (.cells #[.int .i64 f, .int .i64 t] 39)
    have hsz1 : (w1.alloc (.cells #[.int .i64 n, .slice A xs.length c] 26)).heap.size = w1.heap.size + 1 := by simp
    have hx2 : ((w1.alloc (.cells #[.int .i64 n, .slice A xs.length c] 26)).alloc (.cells #[.int .i64 f, .int .i64 t] 39)).heap[w1.heap.size]? = some (.cells #[.int .i64 n, .slice A xs.length c] 26) := by rw [ha2.block _ (by omega)]; exact hx
    have hb2 : Below w1.heap.size w1 ((w1.alloc (.cells #[.int .i64 n, .slice A xs.length c] 26)).alloc (.cells #[.int .i64 f, .int .i64 t] 39)) := ha.trans (ha2.mono (by omega))
    have hs2 : Sl ((w1.alloc (.cells #[.int .i64 n, .slice A xs.length c] 26)).alloc (.cells #[.int .i64 f, .int .i64 t] 39)) w1.heap.size (.slice A xs.length c) xs := (hI1.sl (Nat.le_refl _)).below hb2 (Nat.le_refl _)
    have hz1 := hb1.out.size
    have HB2 := Lib.hid (hb1.out.trans (hb2.mono hz1))
    have hz2 := hb2.size
    generalize hW2 : (w1.alloc (.cells #[.int .i64 n, .slice A xs.length c] 26)).alloc (.cells #[.int .i64 f, .int .i64 t] 39) = W2 at hx2 hs2 HB2 hz2 ⊢
    clear hW2 ha hx ha2 hsz1 hb2 hI1 hb1
    refine (impl_ReduceHandle_any n f t _ xs w1.heap.size W2 hs2 hz2 hf).mono ?_
    rintro e w3 ⟨r2, rfl, hO3, hb3⟩
    have HR := Lib.hid (@rh_facts n f t xs)
    generalize (rhA n xs f t).1 = n2 at *
    generalize (rhA n xs f t).2.1 = ys at *
    generalize (rhA n xs f t).2.2 = cd at *
    obtain ⟨A2, c2, rfl, -⟩ := id (hO3.sl (Nat.le_refl _))
    have hgl2 := (box2 hx2).2.2.2.2
    have hz3 := hb3.size
    have hs3 := hs2.below hb3 (by omega)
    have hx3 : w3.heap[w1.heap.size]? = some (.cells #[.int .i64 n, .slice A xs.length c] 26) := by rw [hb3.block _ (by omega)]; exact hx2
    have HB3 := Lib.hid (HB2.out.trans (hb3.mono (by omega)))
    clear hx2 hs2 HB2 hb3
    have ha4 := al1 w3 (.cells #[.int .i64 n2, .slice A2 ys.length c2] 26)
    have hn4 := alloc_at_ w3 (.cells #[.int .i64 n2, .slice A2 ys.length c2] 26)
    have hs4 := hs3.below ha4 (by omega)
    have hO4 := (hO3.sl (Nat.le_refl _)).below ha4 (Nat.le_refl _)
    have hx4 : (w3.alloc (.cells #[.int .i64 n2, .slice A2 ys.length c2] 26)).heap[w1.heap.size]? = some (.cells #[.int .i64 n, .slice A xs.length c] 26) := by rw [ha4.block _ (by omega)]; exact hx3
    have HB4 := Lib.hid (HB3.out.trans (ha4.mono (by omega)))
    have hz4 := ha4.size
    clear hx3 hs3 HB3 ha4 hO3
    by_cases hcd : cd = 0
    · obtain ⟨hok2, heq2⟩ := HR.out hcd
      subst hcd
      clear HR
      go_wp2_with fail
      generalize hW4 : w3.alloc (.cells #[.int .i64 n2, .slice A2 ys.length c2] 26) = W4 at hn4 hs4 hO4 hx4 HB4 hz4 ⊢
      clear hW4
      refine (spec_ValidBraid_any n2 _ ys w3.heap.size W4 hO4 (by omega)).mono ?_
      rintro e w5 ⟨rfl, hb5⟩
      have hz5 := hb5.size
      have hs5 := hs4.below hb5 (by omega)
      have hO5 := hO4.below hb5 (by omega)
      have hx5 : w5.heap[w1.heap.size]? = some (.cells #[.int .i64 n, .slice A xs.length c] 26) := by rw [hb5.block _ (by omega)]; exact hx4
      have hn5 : w5.heap[w3.heap.size]? = some (.cells #[.int .i64 n2, .slice A2 ys.length c2] 26) := by rw [hb5.block _ (box2 hn4).2.2.2.2]; exact hn4
      have HB5 := Lib.hid (HB4.out.trans (hb5.mono (by omega)))
      obtain ⟨p0, p1, -, -, -⟩ := box2 hx5
      obtain ⟨o0, o1, -, -, -⟩ := box2 hn5
      clear hn4 hs4 hO4 hx4 HB4 hb5
      go_wp2_with fail
      refine (EqualBraids_any n2 n _ _ ys xs w3.heap.size w5 hO5 (hs5.mono (by omega)) (by omega)).mono ?_
      rintro e w6 ⟨rfl, hb6⟩
      have hz6 := hb6.size
      have hsX := hs5.below hb6 (by omega)
      have hbX : w6.heap[w1.heap.size]? = some (.cells #[.int .i64 n, .slice A xs.length c] 26) := by rw [hb6.block _ (by omega)]; exact hx5
      have HBX := Lib.hid (HB5.out.trans (hb6.mono (by omega)))
      clear hs5 hO5 hx5 hn5 HB5 hb6 p0 p1 o0 o1
      obtain ⟨q0, q1, -, -, hgl⟩ := box2 hbX
      go_wp2_with fail
      refine (impl_FirstHandle_any n _ xs w1.heap.size w6 hsX (by omega)).mono ?_
      rintro e w7 ⟨rfl, hb7⟩
      have hz7 := hb7.size
      have hs7 := hsX.below hb7 (by omega)
      have hbx7 : w7.heap[w1.heap.size]? = some (.cells #[.int .i64 n, .slice A xs.length c] 26) := by rw [hb7.block _ (by omega)]; exact hbX
      have HB7 := Lib.hid (HBX.out.trans (hb7.mono (by omega)))
      clear hsX hbX HBX hb7 q0 q1
      have ha8 := al1 w7 (.cells #[.int .i64 (fhF n xs), .int .i64 (fhT n xs)] 39)
      have hs8 := hs7.below ha8 (by omega)
      have hbx8 : (w7.alloc (.cells #[.int .i64 (fhF n xs), .int .i64 (fhT n xs)] 39)).heap[w1.heap.size]? = some (.cells #[.int .i64 n, .slice A xs.length c] 26) := by rw [ha8.block _ (by omega)]; exact hbx7
      have HB8 := Lib.hid (HB7.out.trans (ha8.mono (by omega)))
      have hz8 := ha8.size
      obtain ⟨p0, p1, -, -, hgl8⟩ := box2 hbx8
      clear hbx7 hs7 HB7 ha8
      cases hfb : fhB n xs
      · have HFN := Lib.hid (fun h => fh_no hfb h)
        go_wp2_with fail
        refine (impl_MainLetter_any n _ xs w1.heap.size _ hs8 (by omega)).mono ?_
        rintro e w9 ⟨rfl, hb9⟩
        have hz9 := hb9.size
        have hs9 := hs8.below hb9 (by omega)
        have hbx9 : w9.heap[w1.heap.size]? = some (.cells #[.int .i64 n, .slice A xs.length c] 26) := by rw [hb9.block _ (by omega)]; exact hbx8
        have HB9 := Lib.hid (HB8.out.trans (hb9.mono (by omega)))
        obtain ⟨q0, q1, -, -, hgl9⟩ := box2 hbx9
        clear hbx8 hs8 HB8 hb9 p0 p1 hfb
        go_wp2_with fail
        refine (spec_ValidBraid_any n _ xs w1.heap.size _ hs9 (by omega)).mono ?_
        rintro e w10 ⟨rfl, hb10⟩
        have hz10 := hb10.size
        have hbx10 : w10.heap[w1.heap.size]? = some (.cells #[.int .i64 n, .slice A xs.length c] 26) := by rw [hb10.block _ (by omega)]; exact hbx9
        have HB10 := Lib.hid (HB9.out.trans (hb10.mono (by omega)))
        obtain ⟨p0, p1, -, -, -⟩ := box2 hbx10
        clear hbx9 hs9 HB9 hb10 q0 q1 hbx10
        cases hok : okBr n xs
        · go_wp2_with fail
          go_ret
          exact ⟨rfl, HB10.out⟩
        · have hml := HFN.out hok
          by_cases hpos : 0 < xs.length
          · have hpI : 0 < (xs.length : Int) := by omega
            have hml2 : mlB n xs = true := by rw [hml]; simpa using hpos
            clear hml
            go_wp2_with fail
            go_ret
            exact ⟨rfl, HB10.out⟩
          · have hpI : ¬ 0 < (xs.length : Int) := by omega
            have hml2 : mlB n xs = false := by rw [hml]; simpa using hpos
            clear hml
            go_wp2_with fail
            go_ret
            exact ⟨rfl, HB10.out⟩
      · have hyes := fh_yes hfb
        have hfF : -9223372036854775808 ≤ fhF n xs ∧ fhF n xs ≤ 9223372036854775807 := by
          have hok : okBr n xs = true := by simp only [fhB, Bool.and_eq_true] at hfb; exact hfb.1
          have := hF_bd (okBr_in hok) hl1
          rw [fhF, if_pos hok]
          omega
        go_wp2_with fail
        refine (impl_IsHandle_any n _ xs (fhF n xs) (fhT n xs) w1.heap.size _ hs8 (by omega) hfF).mono ?_
        rintro e w9 ⟨rfl, hb9⟩
        have HB9 := Lib.hid (HB8.out.trans (hb9.mono (by omega)))
        rw [hyes]
        go_wp2_with fail
        go_ret
        exact ⟨rfl, HB9.out⟩
    · have hcb : (cd == 0) = false := by simp [hcd]
      generalize hW4 : w3.alloc (.cells #[.int .i64 n2, .slice A2 ys.length c2] 26) = W4 at hn4 hs4 hO4 hx4 HB4 hz4
      have hsX := hs4
      have hbX := hx4
      have HBX := HB4
      clear hs4 hx4 HB4 hn4 hO4 HR
      obtain ⟨q0, q1, -, -, hgl⟩ := box2 hbX
      go_wp2_with fail
      refine (impl_FirstHandle_any n _ xs w1.heap.size W4 hsX (by omega)).mono ?_
      rintro e w7 ⟨rfl, hb7⟩
      have hz7 := hb7.size
      have hs7 := hsX.below hb7 (by omega)
      have hbx7 : w7.heap[w1.heap.size]? = some (.cells #[.int .i64 n, .slice A xs.length c] 26) := by rw [hb7.block _ (by omega)]; exact hbX
      have HB7 := Lib.hid (HBX.out.trans (hb7.mono (by omega)))
      clear hsX hbX HBX hb7 q0 q1
      have ha8 := al1 w7 (.cells #[.int .i64 (fhF n xs), .int .i64 (fhT n xs)] 39)
      have hs8 := hs7.below ha8 (by omega)
      have hbx8 : (w7.alloc (.cells #[.int .i64 (fhF n xs), .int .i64 (fhT n xs)] 39)).heap[w1.heap.size]? = some (.cells #[.int .i64 n, .slice A xs.length c] 26) := by rw [ha8.block _ (by omega)]; exact hbx7
      have HB8 := Lib.hid (HB7.out.trans (ha8.mono (by omega)))
      have hz8 := ha8.size
      obtain ⟨p0, p1, -, -, hgl8⟩ := box2 hbx8
      clear hbx7 hs7 HB7 ha8
      cases hfb : fhB n xs
      · have HFN := Lib.hid (fun h => fh_no hfb h)
        go_wp2_with fail
        refine (impl_MainLetter_any n _ xs w1.heap.size _ hs8 (by omega)).mono ?_
        rintro e w9 ⟨rfl, hb9⟩
        have hz9 := hb9.size
        have hs9 := hs8.below hb9 (by omega)
        have hbx9 : w9.heap[w1.heap.size]? = some (.cells #[.int .i64 n, .slice A xs.length c] 26) := by rw [hb9.block _ (by omega)]; exact hbx8
        have HB9 := Lib.hid (HB8.out.trans (hb9.mono (by omega)))
        obtain ⟨q0, q1, -, -, hgl9⟩ := box2 hbx9
        clear hbx8 hs8 HB8 hb9 p0 p1 hfb
        go_wp2_with fail
        refine (spec_ValidBraid_any n _ xs w1.heap.size _ hs9 (by omega)).mono ?_
        rintro e w10 ⟨rfl, hb10⟩
        have hz10 := hb10.size
        have hbx10 : w10.heap[w1.heap.size]? = some (.cells #[.int .i64 n, .slice A xs.length c] 26) := by rw [hb10.block _ (by omega)]; exact hbx9
        have HB10 := Lib.hid (HB9.out.trans (hb10.mono (by omega)))
        obtain ⟨p0, p1, -, -, -⟩ := box2 hbx10
        clear hbx9 hs9 HB9 hb10 q0 q1 hbx10
        cases hok : okBr n xs
        · go_wp2_with fail
          go_ret
          exact ⟨rfl, HB10.out⟩
        · have hml := HFN.out hok
          by_cases hpos : 0 < xs.length
          · have hpI : 0 < (xs.length : Int) := by omega
            have hml2 : mlB n xs = true := by rw [hml]; simpa using hpos
            clear hml
            go_wp2_with fail
            go_ret
            exact ⟨rfl, HB10.out⟩
          · have hpI : ¬ 0 < (xs.length : Int) := by omega
            have hml2 : mlB n xs = false := by rw [hml]; simpa using hpos
            clear hml
            go_wp2_with fail
            go_ret
            exact ⟨rfl, HB10.out⟩
      · have hyes := fh_yes hfb
        have hfF : -9223372036854775808 ≤ fhF n xs ∧ fhF n xs ≤ 9223372036854775807 := by
          have hok : okBr n xs = true := by simp only [fhB, Bool.and_eq_true] at hfb; exact hfb.1
          have := hF_bd (okBr_in hok) hl1
          rw [fhF, if_pos hok]
          omega
        go_wp2_with fail
        refine (impl_IsHandle_any n _ xs (fhF n xs) (fhT n xs) w1.heap.size _ hs8 (by omega) hfF).mono ?_
        rintro e w9 ⟨rfl, hb9⟩
        have HB9 := Lib.hid (HB8.out.trans (hb9.mono (by omega)))
        rw [hyes]
        go_wp2_with fail
        go_ret
        exact ⟨rfl, HB9.out⟩

set_option maxRecDepth 100000 in
theorem lifted (os : Os) (started : os.Started) (H : Type) (enc : TypeId × Value → H) :
    ReturnsInHanded {} Try.checked os 5 .any (Rows.fnHandleStepsSpec.pre6 enc Try.prog Try.f5 Rows.fnHandleStepsRow.domain false) (Rows.fnHandleStepsSpec.post enc Try.prog Try.f5 false true false false) := by
  refine returnsInHanded_of_change (C := Try.checked) own_knob started (by kernel_rfl) Try.func5
    (ChangeSpec.witness6 (enc := enc) (C := Try.checked) false ⟨#[], #[.slice none 0 0], []⟩ 8 (by kernel_rfl) (by kernel_rfl) (by kernel_rfl) (by kernel_rfl)) ?_
  intro W base args ds gs before hval0 hW hcnd _
  have hval : ∀ (j : Nat) t v, Try.f5.params[j]? = some t → args[j]? = some v → Value.okWide Try.prog W .any base t v := hval0
  have hW' := hW
  obtain ⟨p, q, hA0, hV, rfl, hfz, hnd⟩ := hW
  have hA : DataW.TrodAll enc Try.prog W 0 (fun _ => true) true Try.f5.params.toList args.toList ds p := hA0
  rw [Try.params5] at hA hval
  obtain ⟨v0, vs0, d0, ds0, p0, q0, hargs, rfl, rfl, h0, r0⟩ := trodAll_cons hA
  obtain ⟨rfl, rfl, rfl⟩ := trodAll_nil r0
  obtain rfl : args = #[v0] := by cases args; simp_all
  obtain ⟨rfl, rfl⟩ := trodVars_none hV
  have k0 := h0
  have lt0 : ∀ x ∈ p0, x.block < W.heap.size := by obtain ⟨m, hm⟩ := k0; exact DataW.trod_lt m _ _ _ hm
  obtain ⟨bs, s0⟩ := open_SlB (hval 0 22 v0 rfl rfl) h0
  clear hA0 hval0
  refine (walk v0 bs W s0).mono fun e W' ⟨he, bel⟩ => ?_
  subst he
  exact ⟨_, rfl, _, _, _, [], _, [], hW', trodAll_mk1 (shut_bool Try.underlying4 _), (trodAll_cons_mk (Below.trod laid_out (by kernel_rfl) (of_decide_eq_true (by kernel_rfl)) k0 bel lt0) trodAll_mk0), rfl, bel.frame _, fun h => by cases h⟩

/-- The statement. -/
theorem proved : Rows.FnHandleStepsSaid :=
  OpenClaim.holds_of_wide 5 Try.f5 rfl rfl rfl rfl rfl rfl rfl ⟨rfl, rfl, rfl, rfl, rfl⟩ rfl rfl rfl rfl rfl (by kernel_rfl) Try.func5 (by kernel_rfl)
    (of_decide_eq_true (by kernel_rfl)) (by unfold Func.isWrapper; first | (rw [if_pos (by decide +kernel)]; kernel_rfl) | (rw [if_neg (by decide +kernel)]; exact ⟨rfl, rfl⟩))
    (fun os started H enc _ => lifted os started H enc)
#print axioms proved
end Go.Proofs.Ytcinnbkhnonijaa.fnHandleSteps
