/-
  Proved here: the card of the law FnExactReadProgram: for every input the law returns true, and every argument reads behind the call as it read before.
-/
import Derived.Test.YtgmppfhokfifgaaGreatDoorOpen
import Derived.Test.YtgmppfhokfifgaaGreatDoorTyd
import Derived.Test.YtgmppfhokfifgaaGreatDoorPo2
import Derived.Test.YtgmppfhokfifgaaGreatDoorPo4
import Derived.Test.YtgmppfhokfifgaaGreatDoorTie
import Derived.Test.YtgmppfhokfifgaaGreatDoorCards
import Derived.ProofKit
import Derived.Lay
import Derived.HandedShaped
import Derived.Shelf.Vars
import Derived.LaidMore
import Derived.OpenShut
import Derived.ShutString
import Derived.ChangeOld
import Derived.Below
import Derived.Stop.Joined
import Derived.Stop.LaidErr
import Derived.Lib.LaidTab
import Derived.SevenTiedAt
import Derived.Deep.RegionHeld3
import Derived.Deep.DeepCutAuto
namespace Go.Proofs.YtgmppfhokfifgaaGreatDoor.fnExactReadProgram
set_option maxRecDepth 10000
open Go.ChangeShapes Go.WideShapes Go.ChangeAt Go.RowKit
open Go.ChangeMaps (open_string shut_string)
set_option linter.unusedVariables false

set_option maxRecDepth 100000 in
set_option maxHeartbeats 6400000 in
theorem walk (s : ByteArray) {w : World} (hd : Dw w) (hw : Sw w) :
    Calls Tryz.prog 3 #[.string s] w fun e w' => e = .returned (.bool true) ∧ Below w.heap.size w w' := by
  have HD := Lib.hid hd
  have HW := Lib.hid hw
  clear hd hw
  by_cases h : 1048576 < s.size
  · have hI : (1048576 : Int) < (s.size : Int) := by omega
    go_enter Tryz.func3, Tryz.ntmps3
    go_wp2_with fail
    go_ret
    exact ⟨rfl, Below.refl _ _⟩
  · have hI : ¬ ((1048576 : Int) < (s.size : Int)) := by omega
    have hs : s.size ≤ 1048576 := by omega
    clear h
    go_enter Tryz.func3, Tryz.ntmps3
    go_wp2_with fail
    refine (spec_ReadProgram_any s _ hs).mono ?_
    rintro e w1 ⟨n, ln, code, v1, os, rfl, ho, hr, hol, hq⟩
    have HR := Lib.hid hr
    obtain ⟨A1, c1, rfl, -⟩ := id (ho.sl (Nat.le_refl _))
    have HB1 := Lib.hid hq
    have HS1 := Lib.hid (hs_owt ho hq)
    clear hr hq ho
    go_wp2_with fail
    refine (impl_ReadProgram_any s hs (HD.out.below HB1.out) (HW.out.below HB1.out)).mono ?_
    rintro e w2 ⟨n', ln', code', v2, os', rfl, ho, hr, -, hq⟩
    obtain ⟨rfl, rfl, rfl, rfl⟩ := HR.out.unique hr
    obtain ⟨A2, c2, rfl, -⟩ := id (ho.sl (Nat.le_refl _))
    have HB2 := Lib.hid (HB1.out.trans (hq.mono HB1.out.size))
    have HS2 := Lib.hid (HS1.out.join hq (hs_owt ho hq))
    clear hr hq ho HS1 HB1
    go_wp2_with fail
    refine (eqOps_yes (Hs.rdT [rt_ 8 38 (.slice A1 os.length c1) (os)] [] HS2.out) (Hs.rdT [] [rt_ 8 38 (.slice A2 os.length c2) (os)] HS2.out) (Nat.le_refl _) (Nat.le_refl _)).mono ?_
    rintro e w3 ⟨rfl, hq⟩
    have HB3 := Lib.hid (HB2.out.trans (hq.mono HB2.out.size))
    have hS3 := HS2.out.below hq
    clear hq HS2 HB2
    obtain ⟨lo3, hi3, hit, hle, hput⟩ := Hs.owtAt [rt_ 8 38 (.slice A1 os.length c1) (os)] (.slice A2 os.length c2) os [] hS3
    have HIT := Lib.hid hit
    have HPUT := Lib.hid hput
    clear hput hS3 hit hle
    go_wp2_with fail
    refine (markOps_any (c := 1) HIT.out (by omega) (by omega) (by omega)).mono ?_
    rintro e w4 ⟨rfl, hit2, hch⟩
    obtain ⟨hS4, hq⟩ := HPUT.out (markO 1 os.length) w4 hit2 hch
    have HS4 := Lib.hid hS4
    have HB4 := Lib.hid (HB3.out.trans hq)
    clear HPUT HIT hit2 hch hq hS4 HB3
    go_wp2_with fail
    refine (heldOps_b (Hs.rdT [rt_ 8 38 (.slice A1 os.length c1) (os)] [] HS4.out) (by omega) (by omega) (by omega)).mono ?_
    rintro e w5 ⟨rfl, hq⟩
    have HB5 := Lib.hid (HB4.out.trans (hq.mono HB4.out.size))
    have HS5 := Lib.hid (HS4.out.below hq)
    clear hq HS4 HB4
    go_wp2_with fail
    refine (impl_ReadProgram_any s hs (HD.out.below HB5.out) (HW.out.below HB5.out)).mono ?_
    rintro e w6 ⟨n', ln', code', v3, os', rfl, ho, hr, -, hq⟩
    obtain ⟨rfl, rfl, rfl, rfl⟩ := HR.out.unique hr
    obtain ⟨A3, c3, rfl, -⟩ := id (ho.sl (Nat.le_refl _))
    have HB6 := Lib.hid (HB5.out.trans (hq.mono HB5.out.size))
    have HS6 := Lib.hid (HS5.out.join hq (hs_owt ho hq))
    clear hr hq ho HS5 HB5
    go_wp2_with fail
    refine (eqOps_yes (Hs.rdT [rt_ 8 38 (.slice A1 os.length c1) (os), rt_ 8 38 (.slice A2 os.length c2) (markO 1 os.length)] [] HS6.out) (Hs.rdT [] [rt_ 8 38 (.slice A2 os.length c2) (markO 1 os.length), rt_ 8 38 (.slice A3 os.length c3) (os)] HS6.out) (Nat.le_refl _) (Nat.le_refl _)).mono ?_
    rintro e w7 ⟨rfl, hq⟩
    have HB7 := Lib.hid (HB6.out.trans (hq.mono HB6.out.size))
    have HS7 := Lib.hid (HS6.out.below hq)
    clear hq HS6 HB6
    go_wp2_with fail
    refine (heldOps_b (Hs.rdT [rt_ 8 38 (.slice A1 os.length c1) (os)] [rt_ 8 38 (.slice A3 os.length c3) (os)] HS7.out) (by omega) (by omega) (by omega)).mono ?_
    rintro e w8 ⟨rfl, hq⟩
    have HB8 := Lib.hid (HB7.out.trans (hq.mono HB7.out.size))
    clear hq HS7 HB7
    go_wp2_with fail
    go_ret
    exact ⟨rfl, HB8.out⟩

/-- The frame: a law whose row lists variables and whose contract asks for the world's shape. -/
theorem returns_shaped_and {H : Type} {enc : TypeId × Value → H} {a : Assume} {C : Checked} {os : Os} {f : FuncId} {fn : Func} {s : ChangeSpec} {conds : List PathCond} {apart fresh handsOn again : Bool} {X : World → Array Value → Prop}
    (hX : ∀ (w w' : World) (args : Array Value), w.heap = w'.heap → X w args → X w' args)
    (own : ownKnob C.prog.godebug = none) (started : os.Started) (noInit : C.prog.inits.idxOf? f = none) (hfn : C.prog.funcs[f]? = some fn)
    (witness : ∃ (w : World) (tape : Tape) (i : Input), w.os = os ∧ (w.forCall tape i).Shaped C.prog ∧ i.vars = [] ∧ Input.okWide C.prog (w.forCall tape i) .any w.heap.size f i ∧
      ((s.pre enc C.prog fn conds apart (w.forCall tape i).memory i.args ∧ X (w.forCall tape i).memory i.args) ∧ sizedMet enc C.prog fn (OpenSpec.ofChange s) apart (w.forCall tape i).memory i.args) ∧ a.holds C.prog (lone (Frame.enter C.prog f i.args .normal) [] (w.forCall tape i)))
    (contract : ∀ (W : World) (base : Nat) (args : Array Value) (ds gs : List (DataW H)) (before : List MemPlace),
      (∀ (j : Nat) t v, fn.params[j]? = some t → args[j]? = some v → Value.okWide C.prog W .any base t v) →
      DataW.Whole enc C.prog fn.params.toList s.vars apart W args.toList ds gs before →
      conds.all (PathCond.test C.prog ⟨fn.params.toList, ds, s.plain.varTypes C.prog, gs⟩) = true →
      (DataW.weightsEach C.prog (fn.params.toList ++ s.plain.varTypes C.prog) (ds ++ gs)).all (· ≤ reachBytes) = true → X W args → W.ShapedOpen C.prog →
      a.holds C.prog (lone (Frame.enter C.prog f args .normal) [] W) →
      Calls C.prog f args W fun e W' => ∃ v, e = .returned v ∧ s.post enc C.prog fn apart fresh handsOn again W args v W') :
    ReturnsInHanded a C os f .any (fun w args => (s.pre enc C.prog fn conds apart w args ∧ X w args) ∧ sizedMet enc C.prog fn (OpenSpec.ofChange s) apart w args) (s.post enc C.prog fn apart fresh handsOn again) := by
  refine returnsInHanded_of_calls own started noInit witness ?_
  intro w tape i _ hsh _ hok hpre hholds
  obtain ⟨_, _, _, fn', hfn', _, _, _, _, hval⟩ := hok
  have e : fn' = fn := Option.some.inj (hfn'.symm.trans hfn)
  subst e
  obtain ⟨⟨⟨ds, gs, before, hw, hc⟩, hx⟩, hz⟩ := hpre
  have hw' := DataW.Whole.of_heap (w' := w.forCall tape i) (by rfl) hw
  refine (contract (w.forCall tape i) w.heap.size i.args ds gs before hval hw' hc (hz.weights hw) (hX _ _ _ (by rfl) hx) hsh hholds).mono fun e W' ⟨v, he, hp⟩ => ?_
  subst he
  exact ChangeSpec.post_blind hp
theorem star_ : "*" ++ "errors.errorString" = "*errors.errorString" := by decide
theorem row_laid : Rows.fnExactReadProgramRow.laid = [("math/bits.deBruijn32tab", Rows.laid_math_bits_deBruijn32tab), ("math/bits.deBruijn64tab", Rows.laid_math_bits_deBruijn64tab), ("internal/strconv.uint64pow10", Rows.laid_internal_strconv_uint64pow10), ("unicode/utf8.acceptRanges", Rows.laid_unicode_utf8_acceptRanges), ("strconv.ErrRange", Rows.laid_strconv_ErrRange), ("strconv.ErrSyntax", Rows.laid_strconv_ErrSyntax), ("unicode/utf8.first", Rows.laid_unicode_utf8_first)] := rfl
set_option maxRecDepth 100000 in
theorem dw_of {W : World} (h : laidMetH Tryz.prog Rows.fnExactReadProgramRow.laid W) : Dw W := by
  rw [MakeChecks.laidMetH_plain _ _ _ (by kernel_rfl), row_laid] at h
  have h3 : laidMet Tryz.prog (("internal/strconv.uint64pow10", Lib.tabData .u64 Lib.pow10Tab) :: [("unicode/utf8.acceptRanges", Rows.laid_unicode_utf8_acceptRanges), ("strconv.ErrRange", Rows.laid_strconv_ErrRange), ("strconv.ErrSyntax", Rows.laid_strconv_ErrSyntax), ("unicode/utf8.first", Rows.laid_unicode_utf8_first)]) W := h.tail.tail
  have h5 := h3.tail.tail
  have h6 := h5.tail
  refine ⟨Lib.tabIs_of_head (g := 1) (t := 166) (e := 87) (n := 20) (by kernel_rfl) (by kernel_rfl) (by kernel_rfl) (by kernel_rfl) (by kernel_rfl) (by kernel_rfl) h3, ?_, ?_⟩
  · obtain ⟨a, sy, hv, -⟩ := laid_sentinel h6 (g := 4) (ti := 63) (tp := 199) (te := 201) (ts := 9) (by kernel_rfl) (by kernel_rfl) Tryz.underlying63 (fun u hu => typeName_ptr_named (nm := "errors.errorString") (by rw [star_]; kernel_rfl) (by kernel_rfl) (by decide) u (by rw [star_]; exact hu)) (by kernel_rfl) Tryz.underlying201 rfl rfl (by kernel_rfl) (by kernel_rfl) (by kernel_rfl)
    exact ⟨_, _, hv⟩
  · obtain ⟨a, sy, hv, -⟩ := laid_sentinel h5 (g := 5) (ti := 63) (tp := 199) (te := 201) (ts := 9) (by kernel_rfl) (by kernel_rfl) Tryz.underlying63 (fun u hu => typeName_ptr_named (nm := "errors.errorString") (by rw [star_]; kernel_rfl) (by kernel_rfl) (by decide) u (by rw [star_]; exact hu)) (by kernel_rfl) Tryz.underlying201 rfl rfl (by kernel_rfl) (by kernel_rfl) (by kernel_rfl)
    exact ⟨_, _, hv⟩
theorem sw_of {W : World} (h : W.ShapedOpen Tryz.prog) : Sw W :=
  cell_of_shapedOpen_int (zero := #[.int .i64 0]) (t := 3) h (of_decide_eq_true (by kernel_rfl)) (by kernel_rfl) rfl (by kernel_rfl) (by kernel_rfl) (by kernel_rfl)
set_option maxRecDepth 100000 in
theorem lifted (os : Os) (started : os.Started) (H : Type) (enc : TypeId × Value → H) :
    ReturnsInHanded {} Tryz.checked os 3 .any (fun w args => (Rows.fnExactReadProgramSpec.pre enc Tryz.prog Tryz.f3 [] false w args ∧ laidMetH Tryz.prog Rows.fnExactReadProgramRow.laid w) ∧ sizedMet enc Tryz.prog Tryz.f3 (OpenSpec.ofChange Rows.fnExactReadProgramSpec) false w args)
      (Rows.fnExactReadProgramSpec.post enc Tryz.prog Tryz.f3 false true false false) := by
  refine returns_shaped_and (C := Tryz.checked) (X := fun w _ => laidMetH Tryz.prog Rows.fnExactReadProgramRow.laid w) (fun _ _ _ hh h => h.of_heap hh) own_knob started (by kernel_rfl) Tryz.func3
    (ChangeSpec.witness_shaped (enc := enc) (C := Tryz.checked) (os := os) (X := fun w _ => laidMetH Tryz.prog Rows.fnExactReadProgramRow.laid w) false (World.laidAll Tryz.prog os Rows.fnExactReadProgramRow.laid) #[.string ByteArray.empty] 8 (World.laidAll_os _ _ _)
      (World.shaped_of_ZipB (by kernel_rfl) (by kernel_rfl)) (by kernel_rfl) (by kernel_rfl) (by kernel_rfl)
      (by rw [MakeChecks.laidMetH_plain _ _ _ (by kernel_rfl)]; exact laidMet_laidAll _ (by kernel_rfl) (by kernel_rfl))) ?_
  intro W base args ds gs before hval0 hW _ hsz hL hsh _
  have hval : ∀ (j : Nat) t v, Tryz.f3.params[j]? = some t → args[j]? = some v → Value.okWide Tryz.prog W .any base t v := hval0
  have hW' := hW
  obtain ⟨p, q, hA0, hV, rfl, hfz, hnd⟩ := hW
  have hA : DataW.TrodAll enc Tryz.prog W 0 (fun _ => true) true Tryz.f3.params.toList args.toList ds p := hA0
  rw [Tryz.params3] at hA hval
  obtain ⟨v0, vs0, d0, ds0, p0, q0, hargs, rfl, rfl, h0, r0⟩ := trodAll_cons hA
  obtain ⟨rfl, rfl, rfl⟩ := trodAll_nil r0
  obtain rfl : args = #[v0] := by cases args; simp_all
  obtain ⟨rfl, rfl⟩ := trodVars_none hV
  have k0 := h0
  have lt0 : ∀ x ∈ p0, x.block < W.heap.size := by obtain ⟨m, hm⟩ := k0; exact DataW.trod_lt m _ _ _ hm
  obtain ⟨s, rfl, _, _, _⟩ := open_string Tryz.underlying9 (hval 0 9 v0 rfl rfl) h0
  have hD := dw_of hL
  have hS := sw_of hsh
  clear hA0 hval0
  refine (walk s hD hS).mono fun e W' ⟨he, bel⟩ => ?_
  subst he
  exact ⟨_, rfl, _, _, _, [], _, [], hW', trodAll_mk1 (shut_bool Tryz.underlying4 _), (trodAll_cons_mk (Below.trod laid_out (by kernel_rfl) (of_decide_eq_true (by kernel_rfl)) k0 bel lt0) trodAll_mk0), rfl, bel.frame _, fun h => by cases h⟩

/-- The row. -/
theorem row_holds : Rows.FnExactReadProgramSaid :=
  OpenClaim.holds_of_wide 3 Tryz.f3 rfl rfl rfl rfl rfl rfl rfl ⟨rfl, rfl, rfl, rfl, rfl⟩ rfl rfl rfl rfl rfl (by kernel_rfl) Tryz.func3 (by kernel_rfl)
    (of_decide_eq_true (by kernel_rfl)) (by unfold Func.isWrapper; first | (rw [if_pos (by decide +kernel)]; kernel_rfl) | (rw [if_neg (by decide +kernel)]; exact ⟨rfl, rfl⟩))
    (fun os started H enc _ => lifted os started H enc)
/-- The card. -/
theorem proved : Rows.FnExactReadProgramCardSaid :=
  Claim7.holds_tied_plain_at .later [] [.data, .data, .data, .data, .sentinel, .sentinel, .pinned] true (true, "158d8bfc24e11b50ef0f974f5b35f03af841dfa6e673525f8e1c43d54ad0a08a") true
    row_holds (fun _ h => by cases h) (by kernel_rfl) (fun _ h => by cases h) fnExactReadProgram_row_tie rfl ⟨rfl, rfl⟩ (by kernel_rfl) rfl
    (fun f fn hf hfn => by
      obtain rfl : f = 3 := Option.some.inj ((show Tryz.prog.funcNamed "loop.example/g00856/laws.FnExactReadProgram" = some 3 by kernel_rfl).symm.trans hf) |>.symm
      obtain rfl : fn = Tryz.f3 := (Option.some.inj (Tryz.func3.symm.trans hfn)).symm
      exact ⟨by kernel_rfl, fun j t ht => by
        have hm : t ∈ Tryz.f3.params := Array.mem_of_getElem? ht
        have hall : (Tryz.f3.params.toList.all fun u => !Tryz.prog.wantsStandIn u) = true := by kernel_rfl
        exact (show Tryz.prog.wantsStandIn t = false by simpa using List.all_eq_true.1 hall t (Array.mem_toList_iff.2 hm))⟩)
    (by kernel_rfl)
#print axioms proved
end Go.Proofs.YtgmppfhokfifgaaGreatDoor.fnExactReadProgram
