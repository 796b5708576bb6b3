/-
  Proved here: for every input the law FnFree returns true, and the argument reads behind the call as it read before. No condition.
-/
import Derived.Test.YtcoocjdkppdlmaaDrf
import Derived.Test.YtcoocjdkppdlmaaFrl
import Derived.Test.YtcoocjdkppdlmaaNums
import Derived.ProofKit
import Derived.OpenShut
import Derived.ShutString
import Derived.ChangeOld
import Derived.Below
import Derived.Deep.RegionHeld3
namespace Go.Proofs.Ytcoocjdkppdlmaa.fnFree
set_option maxRecDepth 10000
open Go.ChangeShapes Go.WideShapes Go.ChangeAt Go.RowKit
set_option linter.unusedVariables false

theorem sl_step {w w' : World} {v : Value} {xs : List Int} (h : Sl w w.heap.size v xs) (hb : Below w.heap.size w w') : Sl w' w'.heap.size v xs := (h.below hb (Nat.le_refl _)).mono hb.size
theorem free_facts {n : Int} {xs : List Int} (h : okFree n xs = true) : ∃ R C D : List Int, fRed n xs = R ∧ fInv n xs = inv R ∧ (fJoinC n xs (inv R) = 0 ∧ fJoin n xs (inv R) = []) ∧ (fCoreA n xs = C ∧ fCoreB n xs = D) ∧ (okFree n C = true ∧ fInv n C = inv C) ∧
    (fJoinC n C D = 0 ∧ fJoin n C D = C ++ D) ∧ (fJoinC n (C ++ D) (inv C) = 0 ∧ fJoin n (C ++ D) (inv C) = R) ∧ R.length = 2 * C.length + D.length ∧ ∀ ys, fJoinC n R ys = fJoinC n xs ys ∧ fJoin n R ys = fJoin n xs ys := by
  obtain ⟨h1, h2, h3, h4⟩ := okFree_parts h
  have hl := red_len xs
  have hm : ∀ x ∈ red xs, x ∈ xs ∨ -x ∈ xs := fun x hx => .inl (red_mem hx)
  have kR := okFree_of h (b := red xs) (by omega) hm
  have kI := okFree_of h (b := inv (red xs)) (by rw [inv_len]; omega) fun x hx => .inr (red_mem (inv_mem hx))
  obtain ⟨l1, l2⟩ := core_len (red xs)
  have ln := coreN_le (red xs)
  have mA : ∀ x ∈ coreA (red xs), x ∈ red xs := fun x hx => List.mem_of_mem_take hx
  have mB : ∀ x ∈ coreB (red xs), x ∈ red xs := fun x hx => List.mem_of_mem_drop (List.mem_of_mem_take hx)
  have kA := okFree_of h (b := coreA (red xs)) (by omega) fun x hx => .inl (red_mem (mA x hx))
  have kB := okFree_of h (b := coreB (red xs)) (by omega) fun x hx => .inl (red_mem (mB x hx))
  have kAB := okFree_of h (b := coreA (red xs) ++ coreB (red xs)) (by rw [List.length_append]; omega) fun x hx => by
    rcases List.mem_append.1 hx with hx | hx
    · exact .inl (red_mem (mA x hx))
    · exact .inl (red_mem (mB x hx))
  have kIA := okFree_of h (b := inv (coreA (red xs))) (by rw [inv_len]; omega) fun x hx => .inr (red_mem (mA _ (inv_mem hx)))
  have dR := rdc_red xs
  have j1 := red_join_inv xs
  have j2 : red (coreA (red xs) ++ coreB (red xs)) = coreA (red xs) ++ coreB (red xs) := red_of_rdc (rdc_coreAB dR)
  have j3 : red ((coreA (red xs) ++ coreB (red xs)) ++ inv (coreA (red xs))) = red xs := by rw [core_join]; exact red_of_rdc dR
  have j4 : red (coreA (red xs)) = coreA (red xs) := red_of_rdc (rdc_coreA dR)
  refine ⟨red xs, coreA (red xs), coreB (red xs), by simp [fRed, h], by simp [fInv, h], ⟨?_, ?_⟩, ⟨by simp [fCoreA, h], by simp [fCoreB, h]⟩, ⟨kA, by simp [fInv, kA, j4]⟩, ⟨?_, ?_⟩, ⟨?_, ?_⟩, by omega, fun ys => ⟨?_, ?_⟩⟩
  · simp [fJoinC, h, kI, j1]
  · simp [fJoin, h, kI, j1]
  · rw [fJoinC, if_pos ⟨kA, kB⟩, j2, if_pos (by rw [List.length_append]; omega)]
  · rw [fJoin, j2, if_pos ⟨kA, kB, by rw [List.length_append]; omega⟩]
  · rw [fJoinC, if_pos ⟨kAB, kIA⟩, j3, if_pos (by omega)]
  · rw [fJoin, j3, if_pos ⟨kAB, kIA, by omega⟩]
  · simp only [fJoinC, kR, h, red_red_join]
  · simp only [fJoin, kR, h, red_red_join]
set_option maxRecDepth 100000 in
set_option maxHeartbeats 4000000 in
theorem walk (v : Value) (bs : List Int) (w : World) (h : SlB w w.heap.size v bs) :
    Calls Try.prog 8 #[v] w fun e w' => e = .returned (.bool true) ∧ Below w.heap.size w w' := by
  by_cases hlong : 1048576 < (bs.length : Int)
  · have hlb : decide (1048576 < (bs.length : Int)) = true := by simp [hlong]
    go_enter Try.func8, Try.ntmps8
    go_wp2_with (go_at_call 33; refine (b10Long_any v bs _ _ h).mono ?_; rintro e w' ⟨rfl, rfl⟩)
    go_ret
    exact ⟨rfl, Below.refl _ _⟩
  · have hlb : decide (1048576 < (bs.length : Int)) = false := by simp; omega
    go_enter Try.func8, Try.ntmps8
    go_wp2_with (go_at_call 33; refine (b10Long_any v bs _ _ h).mono ?_; rintro e w' ⟨rfl, rfl⟩)
    refine (DrawFreeJoin_any v bs _ h).mono ?_
    rintro e w1 ⟨n, r0, xs, r1, ys, rfl, s0, s1, hl0, hl1, hb1⟩
    clear h hl1
    cases hok : okFree n xs
    · have HT := Lib.hid (show fText n xs = ByteArray.empty by simp [fText, hok])
      go_wp2_with fail
      refine (impl_FreeReduce_any _ xs _ n _ s0 (Nat.le_refl _)).mono ?_
      rintro e w2 ⟨r2, rfl, ho, hq⟩
      rw [hok]
      replace s0 := sl_step s0 hq
      replace s1 := sl_step s1 hq
      have hb2 := hb1.trans (hq.mono hb1.size)
      have s2 := ho.sl (Nat.le_refl _)
      clear hq hb1 ho
      go_wp2_with fail
      refine (impl_FreeInverse_any _ xs _ n _ s0 (Nat.le_refl _)).mono ?_
      rintro e w3 ⟨r3, rfl, ho, hq⟩
      rw [hok]
      replace s0 := sl_step s0 hq
      replace s1 := sl_step s1 hq
      replace s2 := sl_step s2 hq
      have hb3 := hb2.trans (hq.mono hb2.size)
      have s3 := ho.sl (Nat.le_refl _)
      clear hq hb2 ho
      go_wp2_with (first | (go_at_call 37; refine (is_same hok (spec_ValidFree_any _ xs _ n _ s0)).mono ?_; rintro e w7 ⟨rfl, rfl⟩))
      refine (impl_FreeText_any _ xs _ n _ s0 (Nat.le_refl _)).mono ?_
      rintro e w8 ⟨rfl, hq⟩
      rw [HT.out]
      go_wp2_with fail
      go_ret
      exact ⟨rfl, hb3.trans (hq.mono hb3.size)⟩
    · obtain ⟨R, C, D, e1, e2, ⟨e3, e4⟩, ⟨e5, e6⟩, ⟨e7, e8⟩, ⟨e9, e10⟩, ⟨e11, e12⟩, e13, e14⟩ := free_facts hok
      obtain ⟨t1, t2, t3⟩ := text_back hok
      have E1 := Lib.hid e1
      have E2 := Lib.hid e2
      have E3 := Lib.hid e3
      have E4 := Lib.hid e4
      have E5 := Lib.hid e5
      have E6 := Lib.hid e6
      have E7 := Lib.hid e7
      have E8 := Lib.hid e8
      have E9 := Lib.hid e9
      have E10 := Lib.hid e10
      have E11 := Lib.hid e11
      have E12 := Lib.hid e12
      have E14 := Lib.hid e14
      have T1 := Lib.hid t1
      have T2 := Lib.hid t2
      have hlenb : ((R.length : Int) != 2 * (C.length : Int) + (D.length : Int)) = false := by simp; omega
      have hl2 : (C.length : Int) ≤ 100000 ∧ (D.length : Int) ≤ 100000 := by have := hl0; have h5 := fCoreA_len n xs; have h6 := fCoreB_len n xs; rw [e5] at h5; rw [e6] at h6; omega
      obtain ⟨hlC, hlD⟩ := hl2
      clear e1 e2 e3 e4 e5 e6 e7 e8 e9 e10 e11 e12 e13 e14 t1 t2
      go_wp2_with fail
      refine (impl_FreeReduce_any _ xs _ n _ s0 (Nat.le_refl _)).mono ?_
      rintro e w2 ⟨r2, rfl, ho, hq⟩
      rw [hok]
      rw [E1.out] at ho
      replace s0 := sl_step s0 hq
      replace s1 := sl_step s1 hq
      have hb2 := hb1.trans (hq.mono hb1.size)
      have s2 := ho.sl (Nat.le_refl _)
      clear hq hb1 ho
      go_wp2_with fail
      refine (impl_FreeInverse_any _ xs _ n _ s0 (Nat.le_refl _)).mono ?_
      rintro e w3 ⟨r3, rfl, ho, hq⟩
      rw [hok]
      rw [E2.out] at ho
      replace s0 := sl_step s0 hq
      replace s1 := sl_step s1 hq
      replace s2 := sl_step s2 hq
      have hb3 := hb2.trans (hq.mono hb2.size)
      have s3 := ho.sl (Nat.le_refl _)
      clear hq hb2 ho
      go_wp2_with (first | (go_at_call 37; refine (is_same hok (spec_ValidFree_any _ xs _ n _ s0)).mono ?_; rintro e w7 ⟨rfl, rfl⟩))
      refine (impl_FreeJoin_any _ _ xs (inv R) _ n _ s0 s3 (Nat.le_refl _)).mono ?_
      rintro e w4 ⟨r4, rfl, ho, hq⟩
      rw [E3.out]
      rw [E4.out] at ho
      replace s0 := sl_step s0 hq
      replace s1 := sl_step s1 hq
      replace s2 := sl_step s2 hq
      replace s3 := sl_step s3 hq
      have hb4 := hb3.trans (hq.mono hb3.size)
      have s4 := ho.sl (Nat.le_refl _)
      clear hq hb3 ho
      clear s3
      obtain ⟨A4, c4, rfl, -⟩ := id s4
      go_wp2_with fail
      refine (impl_FreeCore_any _ xs _ n _ s0 (Nat.le_refl _)).mono ?_
      rintro e w5 ⟨r5, r6, rfl, ho, hq⟩
      rw [hok]
      rw [E5.out, E6.out] at ho
      replace s0 := sl_step s0 hq
      replace s1 := sl_step s1 hq
      replace s2 := sl_step s2 hq
      replace s4 := sl_step s4 hq
      have hb5 := hb4.trans (hq.mono hb4.size)
      have s5 := St.rd [] [ow r6 D] ho
      have s6 := St.rd [ow r5 C] [] ho
      clear hq hb4 ho
      clear s4
      obtain ⟨A5, c5, rfl, -⟩ := id s5
      obtain ⟨A6, c6, rfl, -⟩ := id s6
      go_wp2_with fail
      refine (impl_FreeInverse_any _ C _ n _ s5 (Nat.le_refl _)).mono ?_
      rintro e w6 ⟨r7, rfl, ho, hq⟩
      rw [E7.out]
      rw [E8.out] at ho
      replace s0 := sl_step s0 hq
      replace s1 := sl_step s1 hq
      replace s2 := sl_step s2 hq
      replace s5 := sl_step s5 hq
      replace s6 := sl_step s6 hq
      have hb6 := hb5.trans (hq.mono hb5.size)
      have s7 := ho.sl (Nat.le_refl _)
      clear hq hb5 ho
      go_wp2_with fail
      refine (impl_FreeJoin_any _ _ C D _ n _ s5 s6 (Nat.le_refl _)).mono ?_
      rintro e w7 ⟨r8, rfl, ho, hq⟩
      rw [E9.out]
      rw [E10.out] at ho
      replace s0 := sl_step s0 hq
      replace s1 := sl_step s1 hq
      replace s2 := sl_step s2 hq
      replace s5 := sl_step s5 hq
      replace s6 := sl_step s6 hq
      replace s7 := sl_step s7 hq
      have hb7 := hb6.trans (hq.mono hb6.size)
      have s8 := ho.sl (Nat.le_refl _)
      clear hq hb6 ho
      clear s6
      clear s5
      go_wp2_with fail
      refine (impl_FreeJoin_any _ _ (C ++ D) (inv C) _ n _ s8 s7 (Nat.le_refl _)).mono ?_
      rintro e w8 ⟨r9, rfl, ho, hq⟩
      rw [E11.out]
      rw [E12.out] at ho
      replace s0 := sl_step s0 hq
      replace s1 := sl_step s1 hq
      replace s2 := sl_step s2 hq
      replace s7 := sl_step s7 hq
      replace s8 := sl_step s8 hq
      have hb8 := hb7.trans (hq.mono hb7.size)
      have s9 := ho.sl (Nat.le_refl _)
      clear hq hb7 ho
      clear s7
      clear s8
      obtain ⟨A2, c2, rfl, -⟩ := id s2
      go_wp2_with fail
      refine (impl_FreeText_any _ xs _ n _ s0 (Nat.le_refl _)).mono ?_
      rintro e w9 ⟨rfl, hq⟩
      replace s0 := sl_step s0 hq
      replace s1 := sl_step s1 hq
      replace s2 := sl_step s2 hq
      replace s9 := sl_step s9 hq
      have hb9 := hb8.trans (hq.mono hb8.size)
      clear hq hb8
      go_wp2_with fail
      refine (impl_ReadFree_any _ n _ t3).mono ?_
      rintro e w10 ⟨r10, rfl, ho, hq⟩
      rw [T1.out]
      rw [T2.out] at ho
      replace s0 := sl_step s0 hq
      replace s1 := sl_step s1 hq
      replace s2 := sl_step s2 hq
      replace s9 := sl_step s9 hq
      have hb10 := hb9.trans (hq.mono hb9.size)
      have s10 := ho.sl (Nat.le_refl _)
      clear hq hb9 ho
      go_wp2_with fail
      refine (b10Nums_b s9 s2).mono ?_
      rintro e w11 ⟨rfl, hq⟩
      replace s0 := sl_step s0 hq
      replace s1 := sl_step s1 hq
      replace s2 := sl_step s2 hq
      replace s9 := sl_step s9 hq
      replace s10 := sl_step s10 hq
      have hb11 := hb10.trans (hq.mono hb10.size)
      clear hq hb10
      clear s9
      go_wp2_with fail
      refine (b10Nums_b s10 s0).mono ?_
      rintro e w12 ⟨rfl, hq⟩
      replace s0 := sl_step s0 hq
      replace s1 := sl_step s1 hq
      replace s2 := sl_step s2 hq
      replace s10 := sl_step s10 hq
      have hb12 := hb11.trans (hq.mono hb11.size)
      clear hq hb11
      clear s10
      go_wp2_with fail
      refine (impl_FreeJoin_any _ _ xs ys _ n _ s0 s1 (Nat.le_refl _)).mono ?_
      rintro e w13 ⟨r11, rfl, ho, hq⟩
      replace s0 := sl_step s0 hq
      replace s1 := sl_step s1 hq
      replace s2 := sl_step s2 hq
      have hb13 := hb12.trans (hq.mono hb12.size)
      have s11 := ho.sl (Nat.le_refl _)
      clear hq hb12 ho
      go_wp2_with fail
      refine (impl_FreeJoin_any _ _ R ys _ n _ s2 s1 (Nat.le_refl _)).mono ?_
      rintro e w14 ⟨r12, rfl, ho, hq⟩
      rw [(E14.out ys).1]
      rw [(E14.out ys).2] at ho
      replace s0 := sl_step s0 hq
      replace s1 := sl_step s1 hq
      replace s2 := sl_step s2 hq
      replace s11 := sl_step s11 hq
      have hb14 := hb13.trans (hq.mono hb13.size)
      have s12 := ho.sl (Nat.le_refl _)
      clear hq hb13 ho
      have hcc : (fJoinC n xs ys == fJoinC n xs ys) = true := by simp
      go_wp2_with fail
      refine (b10Nums_b s11 s12).mono ?_
      rintro e w15 ⟨rfl, hq⟩
      replace s0 := sl_step s0 hq
      replace s1 := sl_step s1 hq
      replace s2 := sl_step s2 hq
      replace s11 := sl_step s11 hq
      replace s12 := sl_step s12 hq
      have hb15 := hb14.trans (hq.mono hb14.size)
      clear hq hb14
      go_wp2_with fail
      go_ret
      exact ⟨rfl, hb15⟩

set_option maxRecDepth 100000 in
theorem lifted (os : Os) (started : os.Started) (H : Type) (enc : TypeId × Value → H) :
    ReturnsInHanded {} Try.checked os 8 .any (Rows.fnFreeSpec.pre6 enc Try.prog Try.f8 Rows.fnFreeRow.domain false) (Rows.fnFreeSpec.post enc Try.prog Try.f8 false true false false) := by
  refine returnsInHanded_of_change (C := Try.checked) own_knob started (by kernel_rfl) Try.func8
    (ChangeSpec.witness6 (enc := enc) (C := Try.checked) false ⟨#[], #[.slice none 0 0], []⟩ 8 (by kernel_rfl) (by kernel_rfl) (by kernel_rfl) (by kernel_rfl)) ?_
  intro W base args ds gs before hval0 hW hcnd _
  have hval : ∀ (j : Nat) t v, Try.f8.params[j]? = some t → args[j]? = some v → Value.okWide Try.prog W .any base t v := hval0
  have hW' := hW
  obtain ⟨p, q, hA0, hV, rfl, hfz, hnd⟩ := hW
  have hA : DataW.TrodAll enc Try.prog W 0 (fun _ => true) true Try.f8.params.toList args.toList ds p := hA0
  rw [Try.params8] at hA hval
  obtain ⟨v0, vs0, d0, ds0, p0, q0, hargs, rfl, rfl, h0, r0⟩ := trodAll_cons hA
  obtain ⟨rfl, rfl, rfl⟩ := trodAll_nil r0
  obtain rfl : args = #[v0] := by cases args; simp_all
  obtain ⟨rfl, rfl⟩ := trodVars_none hV
  have k0 := h0
  have lt0 : ∀ x ∈ p0, x.block < W.heap.size := by obtain ⟨m, hm⟩ := k0; exact DataW.trod_lt m _ _ _ hm
  obtain ⟨bs, s0⟩ := open_SlB (hval 0 49 v0 rfl rfl) h0
  clear hA0 hval0
  refine (walk v0 bs W s0).mono fun e W' ⟨he, bel⟩ => ?_
  subst he
  exact ⟨_, rfl, _, _, _, [], _, [], hW', trodAll_mk1 (shut_bool Try.underlying4 _), (trodAll_cons_mk (Below.trod laid_out (by kernel_rfl) (of_decide_eq_true (by kernel_rfl)) k0 bel lt0) trodAll_mk0), rfl, bel.frame _, fun h => by cases h⟩

/-- The statement. -/
theorem proved : Rows.FnFreeSaid :=
  OpenClaim.holds_of_wide 8 Try.f8 rfl rfl rfl rfl rfl rfl rfl ⟨rfl, rfl, rfl, rfl, rfl⟩ rfl rfl rfl rfl rfl (by kernel_rfl) Try.func8 (by kernel_rfl)
    (of_decide_eq_true (by kernel_rfl)) (by unfold Func.isWrapper; first | (rw [if_pos (by decide +kernel)]; kernel_rfl) | (rw [if_neg (by decide +kernel)]; exact ⟨rfl, rfl⟩))
    (fun os started H enc _ => lifted os started H enc)
#print axioms proved
end Go.Proofs.Ytcoocjdkppdlmaa.fnFree
