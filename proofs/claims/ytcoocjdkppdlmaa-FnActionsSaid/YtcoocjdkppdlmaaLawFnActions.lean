/-
  Proved here: for every input the law FnActions returns true, and the argument reads behind the call as it read before. No condition.
-/
import Derived.Test.YtcoocjdkppdlmaaIvb
import Derived.Test.YtcoocjdkppdlmaaBp
import Derived.Test.YtcoocjdkppdlmaaNums
import Derived.ProofKit
import Derived.OpenShut
import Derived.ShutString
import Derived.ChangeOld
import Derived.Below
import Derived.Deep.RegionHeld3
namespace Go.Proofs.Ytcoocjdkppdlmaa.fnActions
set_option maxRecDepth 10000
open Go.ChangeShapes Go.WideShapes Go.ChangeAt Go.RowKit
set_option linter.unusedVariables false

theorem b10Nums_is {v1 v2 : Value} {xs : List Int} {B1 B2 : Nat} {w : World} (h1 : Sl w B1 v1 xs) (h2 : Sl w B2 v2 xs) :
    Calls Try.prog 42 #[v1, v2] w fun e w' => e = .returned (.bool true) ∧ Below w.heap.size w w' := by
  refine (b10Nums_yes h1 h2).mono ?_
  rintro e w' ⟨rfl, n, rfl⟩
  exact ⟨rfl, drewN_below _ _ _⟩
theorem act_facts {s : Int} {xs : List Int} (h : (artA s xs).2 = 0) : ∃ n : Nat, s = n ∧ n ≤ 12 ∧ okBr n xs = true ∧ Rw_ n xs (artA s xs).1 ∧ (∀ x ∈ xs, x ≠ 0 ∧ 1 - (n : Int) ≤ x ∧ x ≤ n - 1) ∧ ∃ rows', artA (ivN n xs) (ivX n xs) = (rows', 0) ∧ Rw_ n (inv xs) rows' := by
  unfold artA at h
  split at h
  · rename_i hok
    split at h
    · rename_i hl
      obtain ⟨k1, k2, k3, k4⟩ := okBr_parts hok
      obtain ⟨n, rfl⟩ : ∃ n : Nat, s = n := ⟨s.toNat, by omega⟩
      have hx : ∀ x ∈ xs, x ≠ 0 ∧ 1 - (n : Int) ≤ x ∧ x ≤ n - 1 := fun x hx => letters_mem k4 x hx
      have hy : ∀ x ∈ inv xs, x ≠ 0 ∧ 1 - (n : Int) ≤ x ∧ x ≤ n - 1 := fun x hx' => by have := hx _ (inv_mem hx'); omega
      have hly : (inv xs).length ≤ 16 := by rw [inv_len]; exact hl
      have hoky : okBr n (inv xs) = true := by
        simp only [okBr, Bool.and_eq_true, decide_eq_true_eq]
        exact ⟨⟨inR_iff.2 ⟨k1, k2⟩, by omega⟩, letters_iff.2 fun j hj => badLetter_no (hy _ (gi_mem hj)).1 (hy _ (gi_mem hj)).2.1 (hy _ (gi_mem hj)).2.2⟩
      obtain ⟨rows, h1⟩ := artUp_short (fun x hx' => (hx x hx').1) hl n
      obtain ⟨rows', h2⟩ := artUp_short (fun x hx' => (hy x hx').1) hly n
      refine ⟨n, rfl, by omega, hok, ?_, hx, rows', ?_, rw_of hy h2⟩
      · unfold artA
        rw [if_pos hok, if_pos hl, Int.toNat_natCast, h1]
        exact rw_of hx h1
      · rw [ivN, ivX, if_pos hok, if_pos hok]
        unfold artA
        rw [if_pos hoky, if_pos hly, Int.toNat_natCast, h2]
        rfl
    · simp at h
  · simp at h
set_option maxRecDepth 100000 in
set_option maxHeartbeats 4000000 in
theorem walk (v : Value) (bs : List Int) (w : World) (h : SlB w w.heap.size v bs) :
    Calls Try.prog 9 #[v] w fun e w' => e = .returned (.bool true) ∧ Below w.heap.size w w' := by
  by_cases hlong : 1048576 < (bs.length : Int)
  · have hlb : decide (1048576 < (bs.length : Int)) = true := by simp [hlong]
    go_enter Try.func9, Try.ntmps9
    go_wp2_with (go_at_call 33; refine (b10Long_any v bs _ _ h).mono ?_; rintro e w' ⟨rfl, rfl⟩)
    go_ret
    exact ⟨rfl, Below.refl _ _⟩
  · have hlb : decide (1048576 < (bs.length : Int)) = false := by simp; omega
    clear hlong
    go_enter Try.func9, Try.ntmps9
    go_wp2_with (go_at_call 33; refine (b10Long_any v bs _ _ h).mono ?_; rintro e w' ⟨rfl, rfl⟩)
    refine (DrawArtinAction_any v bs _ h).mono ?_
    rintro e w1 ⟨s, r, xs, rfl, hI1, hl1, hb1⟩
    obtain ⟨A, c, rfl, -⟩ := id hI1
    clear h
    have ha3 := al1 w1 (.cells #[.int .i64 s, .slice A xs.length c] 41)
    have hu4 := alloc_at_ w1 (.cells #[.int .i64 s, .slice A xs.length c] 41)
    have hz1 := hb1.size
    have HB4 := Lib.hid (hb1.trans (ha3.mono hz1))
    have hs4 := (hI1.below ha3 (Nat.le_refl _)).sl (Nat.le_refl _)
    clear ha3 hI1 hb1
    go_wp2_with fail
    generalize hW4 : w1.alloc (.cells #[.int .i64 s, .slice A xs.length c] 41) = w4 at *
    have hg4 := (box2 hu4).2.2.2.2
    clear hW4
    refine (impl_ArtinAction_any s _ xs w1.heap.size w4 hs4 (by omega)).mono ?_
    rintro e w5 ⟨r5, rfl, hO5, hb5⟩
    have hz5 := hb5.size
    have hs5 := hs4.below hb5 (by omega)
    have hu5 := hb5.box hu4 (by omega)
    have HB5 := Lib.hid (HB4.out.trans (hb5.mono (by omega)))
    have hR5 : SlS w5 w5.heap.size r5 (artA s xs).1 := OwS.sl hO5 fun b hb => hb.2
    clear hs4 hu4 HB4 hb5 hO5
    have HF := Lib.hid (@act_facts s xs)
    generalize (artA s xs).1 = rows at *
    generalize (artA s xs).2 = cd at *
    by_cases hcd : cd = 0
    · obtain ⟨n, hsn, hn12, hok, hrw, hin, rows', hart, hrw'⟩ := HF.out hcd
      subst hsn hcd
      have hlen := hrw.len
      have HR := Lib.hid hrw
      have HR' := Lib.hid hrw'
      have hap := hrw.ap hin hn12
      have hact := hrw.act hin hn12
      obtain ⟨A5, c5, rfl, -⟩ := id hR5
      subst hlen
      have hlen' := hrw'.len
      clear HF hrw hrw' hin
      obtain ⟨p0, p1, -, -, -⟩ := box2 hu5
      have hq1 := impl_ActionPermutation_any _ rows w5.heap.size w5 hR5 (Nat.le_refl _)
      rw [hap.1, hap.2] at hq1
      have HQ := Lib.hid hq1
      clear hq1 hap
      go_wp2_with fail
      refine HQ.out.mono ?_
      rintro e w6 ⟨r6, rfl, hO6, hb6⟩
      have hz6 := hb6.size
      have hs6 := hs5.below hb6 (by omega)
      have hu6 := hb6.box hu5 (by omega)
      have hR6 := hR5.below hb6 (Nat.le_refl _)
      have hP6 := hO6.sl (Nat.le_refl _)
      have HB6 := Lib.hid (HB5.out.trans (hb6.mono (by omega)))
      clear hs5 hu5 HB5 hb6 hR5 hO6 HQ p0 p1
      obtain ⟨p0, p1, -, -, -⟩ := box2 hu6
      have hq2 := impl_IsAction_any _ rows w5.heap.size w6 hR6 (by omega)
      rw [hact] at hq2
      have HQ := Lib.hid hq2
      have t1 : ((rows.length : Int) != (rows.length : Int)) = false := by simp
      clear hq2 hact
      go_wp2_with fail
      refine HQ.out.mono ?_
      rintro e w7 ⟨rfl, hb7⟩
      have hz7 := hb7.size
      have hs7 := hs6.below hb7 (by omega)
      have hu7 := hb7.box hu6 (by omega)
      have hR7 := hR6.below hb7 (by omega)
      have hP7 := hP6.below hb7 (by omega)
      have HB7 := Lib.hid (HB6.out.trans (hb7.mono (by omega)))
      clear hs6 hu6 HB6 hb7 hR6 hP6 HQ p0 p1
      obtain ⟨p0, p1, -, -, -⟩ := box2 hu7
      go_wp2_with fail
      refine (BraidPermutation_any rows.length _ xs w1.heap.size w7 hs7 (by omega) hok).mono ?_
      rintro e w8 ⟨r8, rfl, hO8, hb8⟩
      have hz8 := hb8.size
      have hs8 := hs7.below hb8 (by omega)
      have hu8 := hb8.box hu7 (by omega)
      have hR8 := hR7.below hb8 (by omega)
      have hP8 := hP7.below hb8 (by omega)
      have hQ8 := hO8.sl (Nat.le_refl _)
      have HB8 := Lib.hid (HB7.out.trans (hb8.mono (by omega)))
      clear hs7 hu7 HB7 hb8 hR7 hP7 hO8 p0 p1
      go_wp2_with fail
      refine (b10Nums_is hP8 hQ8).mono ?_
      rintro e w9 ⟨rfl, hb9⟩
      have hz9 := hb9.size
      have hs9 := hs8.below hb9 (by omega)
      have hu9 := hb9.box hu8 (by omega)
      have hR9 := hR8.below hb9 (by omega)
      have HB9 := Lib.hid (HB8.out.trans (hb9.mono (by omega)))
      clear hs8 hu8 HB8 hb9 hR8 hP8 hQ8
      obtain ⟨p0, p1, -, -, -⟩ := box2 hu9
      go_wp2_with fail
      refine (InvertBraid_any rows.length _ xs w1.heap.size w9 hs9 (by omega)).mono ?_
      rintro e w10 ⟨r10, rfl, hI10, hb10⟩
      have hz10 := hb10.size
      have hs10 := hs9.below hb10 (by omega)
      have hu10 := hb10.box hu9 (by omega)
      have hR10 := hR9.below hb10 (by omega)
      have HB10 := Lib.hid (HB9.out.trans (hb10.mono (by omega)))
      clear hs9 hu9 HB9 hb10 hR9 p0 p1
      have hq3 := impl_ArtinAction_any (ivN rows.length xs) _ (ivX rows.length xs) w10.heap.size w10 (hI10.sl (Nat.le_refl _)) (Nat.le_refl _)
      rw [hart] at hq3
      go_wp2_with fail
      refine hq3.mono ?_
      clear hq3
      rintro e w11 ⟨r11, rfl, hO11, hb11⟩
      have hR11' : SlS w11 w11.heap.size r11 rows' := OwS.sl hO11 fun b hb => hb.2
      have hz11 := hb11.size
      have hu11 := hb11.box hu10 (by omega)
      have hR11 := hR10.below hb11 (by omega)
      have HB11 := Lib.hid (HB10.out.trans (hb11.mono (by omega)))
      obtain ⟨A11, c11, rfl, -⟩ := id hR11'
      rw [hlen'] at hR11' ⊢
      clear hs10 hu10 HB10 hb11 hR10 hI10 hO11 hart hlen'
      obtain ⟨p0, p1, -, -, -⟩ := box2 hu11
      go_wp2_with fail
      go_loopw [10] (fun i wr => ∃ k : Nat, k ≤ rows.length ∧ i = .int .i64 k ∧ Below w11.heap.size w11 wr) (fun i _ => rows.length - (intOf i).toNat)
      case atStart => exact ⟨0, Nat.zero_le _, rfl, Below.refl _ _⟩
      case round =>
        obtain ⟨k, hk, rfl, hb12⟩ := hrel
        have hz12 := hb12.size
        have hu12 := hb12.box hu11 (by omega)
        clear p0 p1
        obtain ⟨p0, p1, -, -, -⟩ := box2 hu12
        by_cases hlt : k < rows.length
        · have hltI : (k : Int) < rows.length := by omega
          have hR12 := hR11.below hb12 (by omega)
          have hR12' := hR11'.below hb12 (by omega)
          obtain ⟨A9, c9, e9, -, -, -, hcell⟩ := id hR12
          simp only [Value.slice.injEq] at e9
          obtain ⟨rfl, -, rfl⟩ := e9
          obtain ⟨b5, o5, rfl, hbb, hcell⟩ := hcell (by omega)
          obtain ⟨u, hu, hsu⟩ := hcell k hlt
          obtain ⟨Au, cu, rfl, -⟩ := id hsu
          have hq4 := impl_ApplyAction_any _ _ rows' (gl rows k) w11.heap.size wr hR12' (hsu.mono (by omega)) (by omega)
          have HQ := Lib.hid hq4
          have HAB := Lib.hid (fun h => apply_back HR.out HR'.out hlt h)
          clear hcell hq4 hR12 hR12' hsu
          go_wp2_with fail
          refine HQ.out.mono ?_
          rintro e w13 ⟨r13, rfl, hO13, hb13⟩
          have hz13 := hb13.size
          generalize (appA rows' (gl rows k)).1 = X at *
          generalize (appA rows' (gl rows k)).2 = ca at *
          clear hu p0 p1 HQ
          by_cases hca : ca = 0
          · have hX := HAB.out hca
            subst hX hca
            have hP13 := hO13.sl (Nat.le_refl _)
            have hl := ow_lit1 w13 ((k : Int) + 1)
            have ha14 := al1 w13 (.cells #[.int .i64 ((k : Int) + 1)] 2)
            have hP14 := hP13.below ha14 (Nat.le_refl _)
            have hz14 := ha14.size
            have HB14 := Lib.hid ((hb12.trans (hb13.mono (by omega))).trans (ha14.mono (by omega)))
            have hq5 := b10Nums_is hP14 (hl.sl (Nat.le_refl _))
            have HQ := Lib.hid hq5
            clear HAB hq5 hP13 hl ha14 hP14 hO13 hb13 hb12
            go_wp2_with fail
            refine HQ.out.mono ?_
            rintro e w15 ⟨rfl, hb15⟩
            have HB15 := Lib.hid (HB14.out.trans (hb15.mono (by omega)))
            clear hb15 HQ HB14
            go_wp2_with fail
            go_roundw
            case rel => exact ⟨k + 1, by omega, by go_num, HB15.out⟩
            case measure => simp [intOf]; omega
          · have t4 : (ca == 0) = false := by simp [hca]
            have HB14 := Lib.hid (hb12.trans (hb13.mono (by omega)))
            clear hca HAB hO13 hb13 hb12
            go_wp2_with fail
            go_roundw
            case rel => exact ⟨k + 1, by omega, by go_num, HB14.out⟩
            case measure => simp [intOf]; omega
        · obtain rfl : k = rows.length := by omega
          have HE := Lib.hid (HB11.out.trans (hb12.mono (by omega)))
          clear hb12
          go_wp2_with fail
          go_ret
          exact ⟨rfl, HE.out⟩
    · have t4 : (cd != 0) = true := by simp [hcd]
      clear hcd HF hs5 hu5 hR5
      go_wp2_with fail
      go_ret
      exact ⟨rfl, HB5.out⟩
set_option maxRecDepth 100000 in
theorem lifted (os : Os) (started : os.Started) (H : Type) (enc : TypeId × Value → H) :
    ReturnsInHanded {} Try.checked os 9 .any (Rows.fnActionsSpec.pre6 enc Try.prog Try.f9 Rows.fnActionsRow.domain false) (Rows.fnActionsSpec.post enc Try.prog Try.f9 false true false false) := by
  refine returnsInHanded_of_change (C := Try.checked) own_knob started (by kernel_rfl) Try.func9
    (ChangeSpec.witness6 (enc := enc) (C := Try.checked) false ⟨#[], #[.slice none 0 0], []⟩ 8 (by kernel_rfl) (by kernel_rfl) (by kernel_rfl) (by kernel_rfl)) ?_
  intro W base args ds gs before hval0 hW hcnd _
  have hval : ∀ (j : Nat) t v, Try.f9.params[j]? = some t → args[j]? = some v → Value.okWide Try.prog W .any base t v := hval0
  have hW' := hW
  obtain ⟨p, q, hA0, hV, rfl, hfz, hnd⟩ := hW
  have hA : DataW.TrodAll enc Try.prog W 0 (fun _ => true) true Try.f9.params.toList args.toList ds p := hA0
  rw [Try.params9] at hA hval
  obtain ⟨v0, vs0, d0, ds0, p0, q0, hargs, rfl, rfl, h0, r0⟩ := trodAll_cons hA
  obtain ⟨rfl, rfl, rfl⟩ := trodAll_nil r0
  obtain rfl : args = #[v0] := by cases args; simp_all
  obtain ⟨rfl, rfl⟩ := trodVars_none hV
  have k0 := h0
  have lt0 : ∀ x ∈ p0, x.block < W.heap.size := by obtain ⟨m, hm⟩ := k0; exact DataW.trod_lt m _ _ _ hm
  obtain ⟨bs, s0⟩ := open_SlB (hval 0 49 v0 rfl rfl) h0
  clear hA0 hval0
  refine (walk v0 bs W s0).mono fun e W' ⟨he, bel⟩ => ?_
  subst he
  exact ⟨_, rfl, _, _, _, [], _, [], hW', trodAll_mk1 (shut_bool Try.underlying4 _), (trodAll_cons_mk (Below.trod laid_out (by kernel_rfl) (of_decide_eq_true (by kernel_rfl)) k0 bel lt0) trodAll_mk0), rfl, bel.frame _, fun h => by cases h⟩

/-- The statement. -/
theorem proved : Rows.FnActionsSaid :=
  OpenClaim.holds_of_wide 9 Try.f9 rfl rfl rfl rfl rfl rfl rfl ⟨rfl, rfl, rfl, rfl, rfl⟩ rfl rfl rfl rfl rfl (by kernel_rfl) Try.func9 (by kernel_rfl)
    (of_decide_eq_true (by kernel_rfl)) (by unfold Func.isWrapper; first | (rw [if_pos (by decide +kernel)]; kernel_rfl) | (rw [if_neg (by decide +kernel)]; exact ⟨rfl, rfl⟩))
    (fun os started H enc _ => lifted os started H enc)
#print axioms proved
end Go.Proofs.Ytcoocjdkppdlmaa.fnActions
