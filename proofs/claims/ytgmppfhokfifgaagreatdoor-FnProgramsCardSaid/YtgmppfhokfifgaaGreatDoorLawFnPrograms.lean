/-
  Proved here: the card of the law FnPrograms: for every input the law returns true, and every argument reads behind the call as it read before.
-/
import Derived.Test.YtgmppfhokfifgaaGreatDoorOpen
import Derived.Test.YtgmppfhokfifgaaGreatDoorFpp
import Derived.Test.YtgmppfhokfifgaaGreatDoorA2c
import Derived.Test.YtgmppfhokfifgaaGreatDoorGte
import Derived.Test.YtgmppfhokfifgaaGreatDoorGtd
import Derived.Test.YtgmppfhokfifgaaGreatDoorOpt
import Derived.Test.YtgmppfhokfifgaaGreatDoorGmh
import Derived.Test.YtgmppfhokfifgaaGreatDoorKc
import Derived.Test.YtgmppfhokfifgaaGreatDoorPrg
import Derived.Test.YtgmppfhokfifgaaGreatDoorTie
import Derived.Test.YtgmppfhokfifgaaGreatDoorCards
import Derived.ProofKit
import Derived.Lay
import Derived.HandedShaped
import Derived.Shelf.Vars
import Derived.LaidMore
import Derived.OpenShut
import Derived.ShutString
import Derived.ChangeOld
import Derived.Below
import Derived.Stop.Joined
import Derived.Stop.LaidErr
import Derived.Lib.LaidTab
import Derived.SevenTiedAt
import Derived.Deep.RegionHeld3
import Derived.Deep.DeepCutAuto
namespace Go.Proofs.YtgmppfhokfifgaaGreatDoor.fnPrograms
set_option maxRecDepth 10000
open Go.ChangeShapes Go.WideShapes Go.ChangeAt Go.RowKit
open Go.ChangeMaps (open_string shut_string)
set_option linter.unusedVariables false

set_option maxRecDepth 100000 in
set_option maxHeartbeats 25600000 in
theorem walk (v0 : Value) (bs0 : List Int) {w : World} (h0 : SlB w w.heap.size v0 bs0) (hd : Dw w) (hw : Sw w) :
    Calls Tryz.prog 4 #[v0] w fun e w' => e = .returned (.bool true) ∧ Below w.heap.size w w' := by
  obtain ⟨A0, c0, rfl, hl0, hm0, -⟩ := id h0
  have hnil : SlB w w.heap.size (.slice none 0 0) [] := ⟨none, 0, rfl, Nat.le_refl _, by simp [maxLen], by simp, fun h => absurd h (by simp)⟩
  have HLG := Lib.hid (a2Long_any _ (.slice none 0 0) bs0 [] _ w h0 hnil)
  have HDW := Lib.hid hd
  have HSW := Lib.hid hw
  clear hnil hd hw
  cases hlong : (decide (3000 < (bs0.length : Int)) || decide (3000 < ((([] : List Int).length : Nat) : Int)))
  · rw [hlong] at HLG
    clear hlong
    go_enter Tryz.func4, Tryz.ntmps4
    go_wp2_with fail
    refine HLG.out.mono ?_
    rintro e w' ⟨rfl, rfl⟩
    clear HLG
    go_wp2_with fail
    refine (A2Program_any _ bs0 w h0).mono ?_
    rintro e w1 ⟨n, r, M, os, rfl, hn, hO, hD, hl, hb1⟩
    obtain ⟨A, c, rfl, -⟩ := id (hO.sl (Nat.le_refl _))
    have HF := Lib.hid (fp_ok hD hn hl)
    have HRM : Hid (rmR n os = (M, (os.length : Int), 0)) := Lib.hid (by rw [rmR_yes HF.out.ok]; exact hD.run)
    have HB1 := Lib.hid hb1
    have HO1 := Lib.hid (hO.sl (Nat.le_refl _))
    have HD1 := Lib.hid (HDW.out.below hb1)
    have HS1 := Lib.hid (HSW.out.below hb1)
    have hz1 := hb1.size
    obtain ⟨s, hs⟩ : ∃ s, s = prT n os := ⟨_, rfl⟩
    have HSZ : Hid (s.size ≤ 1048576) := Lib.hid (by
      have := prU_short (n := n) (by constructor <;> omega) HF.out.val os.length (Nat.le_refl _)
      rw [hs]
      show (prU n os os.length).size ≤ 1048576
      omega)
    have HRD : Hid (RdP s n os 0 0) := Lib.hid (by rw [hs]; exact rdP_prT HF.out.ok HF.out.o8)
    have HP : Hid (Calls Tryz.prog 12 #[.int .i64 n, .slice A os.length c] w1 fun e w' => e = .returned (.string s) ∧ Below w1.heap.size w1 w') := Lib.hid (by
      have := impl_ProgramText_any (n := n) HO1.out (Nat.le_refl _) HD1.out.tab
      rw [prR_yes HF.out.ok, ← hs] at this
      exact this)
    clear hO hD hb1 h0 hs hl0 hm0 HDW HSW
    go_wp2_with fail
    refine HP.out.mono ?_
    rintro e w2 ⟨rfl, hb2⟩
    have hz2 := hb2.size
    have HB2 := Lib.hid (HB1.out.trans (hb2.mono hz1))
    have HO2 := Lib.hid (HO1.out.below hb2 (Nat.le_refl _))
    have HD2 := Lib.hid (HD1.out.below hb2)
    have HS2 := Lib.hid (HS1.out.below hb2)
    clear hb2 HP HO1 HD1 HS1 HB1
    go_wp2_with fail
    refine (impl_ReadProgram_any s HSZ.out HD2.out HS2.out).mono ?_
    rintro e w3 ⟨n', ln, code, v3, os', rfl, hO3, hr, -, hb3⟩
    obtain ⟨rfl, rfl, rfl, rfl⟩ := HRD.out.unique hr
    obtain ⟨A3, c3, rfl, -⟩ := id (hO3.sl (Nat.le_refl _))
    have hz3 := hb3.size
    have HB3 := Lib.hid (HB2.out.trans (hb3.mono HB2.out.size))
    have V3 := Lib.hid (hO3.sl (Nat.le_refl _))
    have HO3 := Lib.hid (HO2.out.below hb3 hz2)
    have HD3 := Lib.hid (HD2.out.below hb3)
    have HS3 := Lib.hid (HS2.out.below hb3)
    clear hb3 hr hO3 HRD HSZ HO2 HD2 HS2 HB2
    go_wp2_with fail
    refine (a2Ops_yes V3.out HO3.out).mono ?_
    rintro e w4 ⟨rfl, hb4⟩
    have hz4 := hb4.size
    have HB4 := Lib.hid (HB3.out.trans (hb4.mono HB3.out.size))
    have HO4 := Lib.hid (HO3.out.below hb4 (Nat.le_trans hz2 hz3))
    have HD4 := Lib.hid (HD3.out.below hb4)
    have HS4 := Lib.hid (HS3.out.below hb4)
    clear hb4 V3 HO3 HD3 HS3 HB3
    go_wp2_with fail
    refine (impl_KindCounts_any _ os _ w4 HO4.out (by omega)).mono ?_
    rintro e w5 ⟨r5, rfl, hK5, hb5⟩
    have hz5 := hb5.size
    have HB5 := Lib.hid (HB4.out.trans (hb5.mono HB4.out.size))
    have HO5 := Lib.hid (HO4.out.below hb5 (by omega))
    have HD5 := Lib.hid (HD4.out.below hb5)
    have HS5 := Lib.hid (HS4.out.below hb5)
    obtain ⟨K, hK⟩ : ∃ K, K = kcA os := ⟨_, rfl⟩
    rw [← hK] at hK5
    rw [HF.out.kc] at hK
    have hKl : K.length = 9 := by rw [hK, kcUp_len]
    have HKb : Hid (∀ j, 0 ≤ gi K j ∧ gi K j ≤ 30) := Lib.hid (by rw [hK]; intro j; have := HF.out.kb j; omega)
    have HKs : Hid (sU K 9 = (os.length : Int)) := Lib.hid (by rw [hK]; exact HF.out.sum)
    have HK5 := Lib.hid (hK5.sl (Nat.le_refl _))
    obtain ⟨A5, c5, hr5, -⟩ := id HK5.out
    rw [hKl] at hr5
    subst hr5
    have HKl := Lib.hid hKl
    clear hb5 hK5 hK hKl HO4 HD4 HS4 HB4
    go_wp2_with fail
    go_loopw [9, 11] (fun sm i wr => ∃ k : Nat, k ≤ 9 ∧ sm = .int .i64 (sU K k) ∧ i = .int .i64 k ∧ w5 = wr) (fun _ i _ => 9 - (intOf i).toNat)
    case atStart => exact ⟨0, Nat.zero_le _, rfl, rfl, rfl⟩
    case round =>
      obtain ⟨k, hk, rfl, rfl, rfl⟩ := hrel
      by_cases hlt : k < 9
      · have hltI : (k : Int) < 9 := by omega
        obtain ⟨p, o, rfl, q⟩ : ∃ p o, A5 = some ⟨p, o, none⟩ ∧ ∀ j, j < 9 → w5.cell? ⟨p, o + j, none⟩ = some (.int .i64 (gi K j)) := by
          obtain ⟨A', c', e, -, -, -, hc⟩ := HK5.out
          simp only [Value.slice.injEq] at e
          obtain ⟨rfl, -, rfl⟩ := e
          obtain ⟨b, off, e2, -, hcell⟩ := hc (by have := HKl.out; omega)
          exact ⟨b, off, e2, fun j hj => hcell j (by have := HKl.out; omega)⟩
        have q0 := q k hlt
        have hB0 := sU_bd HKb.out k
        have hB1 := HKb.out k
        obtain ⟨s1, hs1⟩ : ∃ s1, s1 = sU K (k + 1) := ⟨_, rfl⟩
        have hwr : IntKind.i64.wrap (sU K k + gi K k) = s1 := by rw [hs1, sU]; exact IntWalk.i64_in _ (by omega)
        have HS1 := Lib.hid hs1
        clear q hB0 hB1 hs1
        generalize sU K k = s0 at *
        generalize gi K k = x0 at *
        go_wp2_with fail
        go_roundw
        case rel => exact ⟨k + 1, by omega, by rw [HS1.out], by go_num, trivial⟩
        case measure => simp [intOf]; omega
      · obtain rfl : k = 9 := by omega
        rw [HKs.out, show ((9 : Nat) : Int) = 9 from rfl]
        clear hk hlt HKs HKb
        go_wp2_with fail
        go_loopw [12] (fun i wr => ∃ k : Nat, k ≤ os.length ∧ i = .int .i64 k ∧ Below w5.heap.size w5 wr) (fun i _ => os.length - (intOf i).toNat)
        case atStart => exact ⟨0, Nat.zero_le _, rfl, Below.refl _ _⟩
        case round =>
          obtain ⟨k, hk, rfl, hb⟩ := hrel
          have hzr := hb.size
          have HBr := Lib.hid hb
          have HOr := Lib.hid (HO5.out.below hb (by omega))
          have HDr := Lib.hid (HD5.out.below hb)
          have HSr := Lib.hid (HS5.out.below hb)
          clear hb
          by_cases hlt : k < os.length
          · have hltI : (k : Int) < (os.length : Int) := by omega
            obtain ⟨p, o, rfl⟩ := HOr.out.addr (by omega)
            have HCA := Lib.hid (HOr.out.opAt hlt)
            have HCB := Lib.hid (HOr.out.opAtB (by omega) hlt)
            have h8 := HF.out.o8 _ (gl_mem hlt)
            have hv := HF.out.val k hlt
            obtain ⟨t, ht⟩ : ∃ t, t = opT (gl os k) := ⟨_, rfl⟩
            have HTX : Hid (Calls Tryz.prog 16 #[.agg #[.int .i64 (gi (gl os k) 0), .int .i64 (gi (gl os k) 1), .int .i64 (gi (gl os k) 2), .int .i64 (gi (gl os k) 3), .int .i64 (gi (gl os k) 4), .int .i64 (gi (gl os k) 5), .int .i64 (gi (gl os k) 6), .int .i64 (gi (gl os k) 7)]] wr fun e w' => e = .returned (.string t) ∧ Below wr.heap.size wr w') := Lib.hid (by
              have := impl_OpText_any (gi (gl os k) 0) (gi (gl os k) 1) (gi (gl os k) 2) (gi (gl os k) 3) (gi (gl os k) 4) (gi (gl os k) 5) (gi (gl os k) 6) (gi (gl os k) 7) HDr.out.tab
              rw [opR_eq, if_pos hv, ← ht] at this
              exact this)
            have HRR : Hid (RdRT t [(gi (gl os k) 0), (gi (gl os k) 1), (gi (gl os k) 2), (gi (gl os k) 3), (gi (gl os k) 4), (gi (gl os k) 5), (gi (gl os k) 6), (gi (gl os k) 7)] true) := Lib.hid (by rw [← oct h8]; exact .inl ⟨rfl, h8, hv, ht.symm⟩)
            have HTS : Hid (t.size ≤ 1048576) := Lib.hid (by
              have h1 := opTx_size hv
              have h2 : (opT (gl os k)).size ≤ 186 := h1
              rw [ht]
              omega)
            clear ht h8 hv
            generalize gi (gl os k) 0 = x0 at *
            generalize gi (gl os k) 1 = x1 at *
            generalize gi (gl os k) 2 = x2 at *
            generalize gi (gl os k) 3 = x3 at *
            generalize gi (gl os k) 4 = x4 at *
            generalize gi (gl os k) 5 = x5 at *
            generalize gi (gl os k) 6 = x6 at *
            generalize gi (gl os k) 7 = x7 at *
            obtain ⟨-, hpl, a0, a1, a2, a3, a4, a5, a6, a7⟩ := HCA.out
            go_wp2_with fail
            clear a0 a1 a2 a3 a4 a5 a6 a7 HCA
            refine HTX.out.mono ?_
            rintro e w6 ⟨rfl, hq6⟩
            have hz6 := hq6.size
            have HQ6 := Lib.hid hq6
            have HD6 := Lib.hid (HDr.out.below hq6)
            have HS6 := Lib.hid (HSr.out.below hq6)
            clear hq6 HTX
            go_wp2_with fail
            refine (impl_ReadOp_any t HTS.out HD6.out HS6.out).mono ?_
            rintro e w7 ⟨y0, y1, y2, y3, y4, y5, y6, y7, b, rfl, hr, hq7⟩
            obtain ⟨he, hbb⟩ := HRR.out.unique hr
            simp only [List.cons.injEq, and_true] at he
            obtain ⟨rfl, rfl, rfl, rfl, rfl, rfl, rfl, rfl⟩ := he
            subst hbb
            have hq8 : Below wr.heap.size wr (w7.alloc (.cells #[.int .i64 x0, .int .i64 x1, .int .i64 x2, .int .i64 x3, .int .i64 x4, .int .i64 x5, .int .i64 x6, .int .i64 x7] 38)) := (HQ6.out.trans (hq7.mono hz6)).trans ((al1 w7 _).mono (by have := hq7.size; omega))
            have HQ8 := Lib.hid hq8
            obtain ⟨hpl8, b0, b1, b2, b3, b4, b5, b6, b7⟩ := HCB.out _ hq8
            obtain ⟨⟨z0, z1, z2, z3, z4, z5, z6, z7⟩, -, zl⟩ := box8 (alloc_at_ w7 (.cells #[.int .i64 x0, .int .i64 x1, .int .i64 x2, .int .i64 x3, .int .i64 x4, .int .i64 x5, .int .i64 x6, .int .i64 x7] 38))
            clear hq7 hq8 hr HRR HQ6 HCB HTS HD6 HS6 HDr HSr HOr
            go_wp2_with fail
            go_quiet (fail)
            go_wp2
            go_roundw
            case rel => exact ⟨k + 1, by omega, by go_num, (HBr.out.trans (HQ8.out.mono hzr)).trans (drewN_below _ _ _)⟩
            case measure => simp [intOf]; omega
          · go_wp2_with fail
            refine (impl_LeastWidth_any _ os _ wr HOr.out (by omega)).mono ?_
            rintro e w6 ⟨rfl, hq6⟩
            have hz6 := hq6.size
            have HBw := Lib.hid (HB5.out.trans (HBr.out.mono HB5.out.size))
            have HB6 := Lib.hid (HBw.out.trans (hq6.mono HBw.out.size))
            have HO6 := Lib.hid (HOr.out.below hq6 (by omega))
            have HD6 := Lib.hid (HDr.out.below hq6)
            obtain ⟨L, hL⟩ : ∃ L, L = lwA os := ⟨_, rfl⟩
            rw [← hL]
            have HL := Lib.hid hL
            clear hq6 hL HBw HBr HOr HDr HSr HO5 HD5 HS5 HB5
            have HC6 := Lib.hid (impl_CheckProgram_any (n := n) HO6.out (by omega))
            rw [HRM.out] at HC6
            go_wp2_with fail
            refine HC6.out.mono ?_
            rintro e w7 ⟨rfl, hq7⟩
            have hz7 := hq7.size
            have HB7 := Lib.hid (HB6.out.trans (hq7.mono HB6.out.size))
            have HO7 := Lib.hid (HO6.out.below hq7 (by omega))
            have HD7 := Lib.hid (HD6.out.below hq7)
            clear hq7 HC6 HB6 HO6 HD6 HRM
            have hl1 : 1 ≤ L := by rw [HL.out]; exact HF.out.lw.1
            have hl2 : L ≤ n := by rw [HL.out]; exact HF.out.lw.2
            obtain ⟨t, ht⟩ : ∃ t, t = prT L os := ⟨_, rfl⟩
            have HP1 : Hid (Calls Tryz.prog 12 #[.int .i64 L, .slice A os.length c] w7 fun e w' => e = .returned (.string t) ∧ Below w7.heap.size w7 w') := Lib.hid (by
              have := impl_ProgramText_any (n := L) HO7.out (by omega) HD7.out.tab
              rw [prR_yes (by rw [HL.out]; exact HF.out.lwok), ← ht] at this
              exact this)
            have hne : t.toList.isEmpty = false := by rw [ht]; exact ne_emp (prT_pos L os)
            have HNO : Hid (L ≠ 1 → prR (L - 1) os = { data := #[] }) := Lib.hid fun h => prR_no (by have := HF.out.lwno; rw [← HL.out] at this; exact this h)
            clear ht HL HF
            by_cases h1 : L = 1
            · subst h1
              go_wp2_with fail
              refine HP1.out.mono ?_
              rintro e w8 ⟨rfl, hq8⟩
              have HB8 := Lib.hid (HB7.out.trans (hq8.mono HB7.out.size))
              clear hq8
              go_wp2_with fail
              go_ret
              exact ⟨rfl, HB8.out⟩
            · have h1b : (L == 1) = false := by simpa using h1
              have hwl : IntKind.i64.wrap (L - 1) = L - 1 := IntWalk.i64_in _ (by omega)
              have HE := Lib.hid (HNO.out h1)
              clear h1 HNO
              go_wp2_with fail
              refine HP1.out.mono ?_
              rintro e w8 ⟨rfl, hq8⟩
              have HB8 := Lib.hid (HB7.out.trans (hq8.mono HB7.out.size))
              have HP2 : Hid (Calls Tryz.prog 12 #[.int .i64 (L - 1), .slice A os.length c] w8 fun e w' => e = .returned (.string { data := #[] }) ∧ Below w8.heap.size w8 w') := Lib.hid (by
                have := impl_ProgramText_any (n := L - 1) (HO7.out.below hq8 (by omega)) (by have := hq8.size; omega) (HD7.out.below hq8).tab
                rw [HE.out] at this
                exact this)
              clear hq8 HP1 HE HO7 HD7
              go_wp2_with fail
              refine HP2.out.mono ?_
              rintro e w9 ⟨rfl, hq9⟩
              have HB9 := Lib.hid (HB8.out.trans (hq9.mono HB8.out.size))
              clear hq9
              go_wp2_with fail
              go_ret
              exact ⟨rfl, HB9.out⟩
  · rw [hlong] at HLG
    clear hlong
    go_enter Tryz.func4, Tryz.ntmps4
    go_wp2_with fail
    refine HLG.out.mono ?_
    rintro e w' ⟨rfl, rfl⟩
    go_wp2_with fail
    go_ret
    exact ⟨rfl, Below.refl _ _⟩

/-- The frame: a law whose row lists variables and whose contract asks for the world's shape. -/
theorem returns_shaped_and {H : Type} {enc : TypeId × Value → H} {a : Assume} {C : Checked} {os : Os} {f : FuncId} {fn : Func} {s : ChangeSpec} {conds : List PathCond} {apart fresh handsOn again : Bool} {X : World → Array Value → Prop}
    (hX : ∀ (w w' : World) (args : Array Value), w.heap = w'.heap → X w args → X w' args)
    (own : ownKnob C.prog.godebug = none) (started : os.Started) (noInit : C.prog.inits.idxOf? f = none) (hfn : C.prog.funcs[f]? = some fn)
    (witness : ∃ (w : World) (tape : Tape) (i : Input), w.os = os ∧ (w.forCall tape i).Shaped C.prog ∧ i.vars = [] ∧ Input.okWide C.prog (w.forCall tape i) .any w.heap.size f i ∧
      ((s.pre enc C.prog fn conds apart (w.forCall tape i).memory i.args ∧ X (w.forCall tape i).memory i.args) ∧ sizedMet enc C.prog fn (OpenSpec.ofChange s) apart (w.forCall tape i).memory i.args) ∧ a.holds C.prog (lone (Frame.enter C.prog f i.args .normal) [] (w.forCall tape i)))
    (contract : ∀ (W : World) (base : Nat) (args : Array Value) (ds gs : List (DataW H)) (before : List MemPlace),
      (∀ (j : Nat) t v, fn.params[j]? = some t → args[j]? = some v → Value.okWide C.prog W .any base t v) →
      DataW.Whole enc C.prog fn.params.toList s.vars apart W args.toList ds gs before →
      conds.all (PathCond.test C.prog ⟨fn.params.toList, ds, s.plain.varTypes C.prog, gs⟩) = true →
      (DataW.weightsEach C.prog (fn.params.toList ++ s.plain.varTypes C.prog) (ds ++ gs)).all (· ≤ reachBytes) = true → X W args → W.ShapedOpen C.prog →
      a.holds C.prog (lone (Frame.enter C.prog f args .normal) [] W) →
      Calls C.prog f args W fun e W' => ∃ v, e = .returned v ∧ s.post enc C.prog fn apart fresh handsOn again W args v W') :
    ReturnsInHanded a C os f .any (fun w args => (s.pre enc C.prog fn conds apart w args ∧ X w args) ∧ sizedMet enc C.prog fn (OpenSpec.ofChange s) apart w args) (s.post enc C.prog fn apart fresh handsOn again) := by
  refine returnsInHanded_of_calls own started noInit witness ?_
  intro w tape i _ hsh _ hok hpre hholds
  obtain ⟨_, _, _, fn', hfn', _, _, _, _, hval⟩ := hok
  have e : fn' = fn := Option.some.inj (hfn'.symm.trans hfn)
  subst e
  obtain ⟨⟨⟨ds, gs, before, hw, hc⟩, hx⟩, hz⟩ := hpre
  have hw' := DataW.Whole.of_heap (w' := w.forCall tape i) (by rfl) hw
  refine (contract (w.forCall tape i) w.heap.size i.args ds gs before hval hw' hc (hz.weights hw) (hX _ _ _ (by rfl) hx) hsh hholds).mono fun e W' ⟨v, he, hp⟩ => ?_
  subst he
  exact ChangeSpec.post_blind hp
theorem star_ : "*" ++ "errors.errorString" = "*errors.errorString" := by decide
theorem row_laid : Rows.fnProgramsRow.laid = [("math/bits.deBruijn32tab", Rows.laid_math_bits_deBruijn32tab), ("math/bits.deBruijn64tab", Rows.laid_math_bits_deBruijn64tab), ("internal/strconv.uint64pow10", Rows.laid_internal_strconv_uint64pow10), ("unicode/utf8.acceptRanges", Rows.laid_unicode_utf8_acceptRanges), ("strconv.ErrRange", Rows.laid_strconv_ErrRange), ("strconv.ErrSyntax", Rows.laid_strconv_ErrSyntax), ("unicode/utf8.first", Rows.laid_unicode_utf8_first)] := rfl
set_option maxRecDepth 100000 in
theorem dw_of {W : World} (h : laidMetH Tryz.prog Rows.fnProgramsRow.laid W) : Dw W := by
  rw [MakeChecks.laidMetH_plain _ _ _ (by kernel_rfl), row_laid] at h
  have h3 : laidMet Tryz.prog (("internal/strconv.uint64pow10", Lib.tabData .u64 Lib.pow10Tab) :: [("unicode/utf8.acceptRanges", Rows.laid_unicode_utf8_acceptRanges), ("strconv.ErrRange", Rows.laid_strconv_ErrRange), ("strconv.ErrSyntax", Rows.laid_strconv_ErrSyntax), ("unicode/utf8.first", Rows.laid_unicode_utf8_first)]) W := h.tail.tail
  have h5 := h3.tail.tail
  have h6 := h5.tail
  refine ⟨Lib.tabIs_of_head (g := 1) (t := 166) (e := 87) (n := 20) (by kernel_rfl) (by kernel_rfl) (by kernel_rfl) (by kernel_rfl) (by kernel_rfl) (by kernel_rfl) h3, ?_, ?_⟩
  · obtain ⟨a, sy, hv, -⟩ := laid_sentinel h6 (g := 4) (ti := 63) (tp := 199) (te := 201) (ts := 9) (by kernel_rfl) (by kernel_rfl) Tryz.underlying63 (fun u hu => typeName_ptr_named (nm := "errors.errorString") (by rw [star_]; kernel_rfl) (by kernel_rfl) (by decide) u (by rw [star_]; exact hu)) (by kernel_rfl) Tryz.underlying201 rfl rfl (by kernel_rfl) (by kernel_rfl) (by kernel_rfl)
    exact ⟨_, _, hv⟩
  · obtain ⟨a, sy, hv, -⟩ := laid_sentinel h5 (g := 5) (ti := 63) (tp := 199) (te := 201) (ts := 9) (by kernel_rfl) (by kernel_rfl) Tryz.underlying63 (fun u hu => typeName_ptr_named (nm := "errors.errorString") (by rw [star_]; kernel_rfl) (by kernel_rfl) (by decide) u (by rw [star_]; exact hu)) (by kernel_rfl) Tryz.underlying201 rfl rfl (by kernel_rfl) (by kernel_rfl) (by kernel_rfl)
    exact ⟨_, _, hv⟩
theorem sw_of {W : World} (h : W.ShapedOpen Tryz.prog) : Sw W :=
  cell_of_shapedOpen_int (zero := #[.int .i64 0]) (t := 3) h (of_decide_eq_true (by kernel_rfl)) (by kernel_rfl) rfl (by kernel_rfl) (by kernel_rfl) (by kernel_rfl)
set_option maxRecDepth 100000 in
theorem lifted (os : Os) (started : os.Started) (H : Type) (enc : TypeId × Value → H) :
    ReturnsInHanded {} Tryz.checked os 4 .any (fun w args => (Rows.fnProgramsSpec.pre enc Tryz.prog Tryz.f4 [] false w args ∧ laidMetH Tryz.prog Rows.fnProgramsRow.laid w) ∧ sizedMet enc Tryz.prog Tryz.f4 (OpenSpec.ofChange Rows.fnProgramsSpec) false w args)
      (Rows.fnProgramsSpec.post enc Tryz.prog Tryz.f4 false true false false) := by
  refine returns_shaped_and (C := Tryz.checked) (X := fun w _ => laidMetH Tryz.prog Rows.fnProgramsRow.laid w) (fun _ _ _ hh h => h.of_heap hh) own_knob started (by kernel_rfl) Tryz.func4
    (ChangeSpec.witness_shaped (enc := enc) (C := Tryz.checked) (os := os) (X := fun w _ => laidMetH Tryz.prog Rows.fnProgramsRow.laid w) false (World.laidAll Tryz.prog os Rows.fnProgramsRow.laid) #[.slice none 0 0] 8 (World.laidAll_os _ _ _)
      (World.shaped_of_ZipB (by kernel_rfl) (by kernel_rfl)) (by kernel_rfl) (by kernel_rfl) (by kernel_rfl)
      (by rw [MakeChecks.laidMetH_plain _ _ _ (by kernel_rfl)]; exact laidMet_laidAll _ (by kernel_rfl) (by kernel_rfl))) ?_
  intro W base args ds gs before hval0 hW _ hsz hL hsh _
  have hval : ∀ (j : Nat) t v, Tryz.f4.params[j]? = some t → args[j]? = some v → Value.okWide Tryz.prog W .any base t v := hval0
  have hW' := hW
  obtain ⟨p, q, hA0, hV, rfl, hfz, hnd⟩ := hW
  have hA : DataW.TrodAll enc Tryz.prog W 0 (fun _ => true) true Tryz.f4.params.toList args.toList ds p := hA0
  rw [Tryz.params4] at hA hval
  obtain ⟨v0, vs0, d0, ds0, p0, q0, hargs, rfl, rfl, h0, r0⟩ := trodAll_cons hA
  obtain ⟨rfl, rfl, rfl⟩ := trodAll_nil r0
  obtain rfl : args = #[v0] := by cases args; simp_all
  obtain ⟨rfl, rfl⟩ := trodVars_none hV
  have k0 := h0
  have lt0 : ∀ x ∈ p0, x.block < W.heap.size := by obtain ⟨m, hm⟩ := k0; exact DataW.trod_lt m _ _ _ hm
  obtain ⟨bs0, s0⟩ := open_SlB (hval 0 28 v0 rfl rfl) h0
  have hD := dw_of hL
  have hS := sw_of hsh
  clear hA0 hval0
  refine (walk v0 bs0 s0 hD hS).mono fun e W' ⟨he, bel⟩ => ?_
  subst he
  exact ⟨_, rfl, _, _, _, [], _, [], hW', trodAll_mk1 (shut_bool Tryz.underlying4 _), (trodAll_cons_mk (Below.trod laid_out (by kernel_rfl) (of_decide_eq_true (by kernel_rfl)) k0 bel lt0) trodAll_mk0), rfl, bel.frame _, fun h => by cases h⟩

/-- The row. -/
theorem row_holds : Rows.FnProgramsSaid :=
  OpenClaim.holds_of_wide 4 Tryz.f4 rfl rfl rfl rfl rfl rfl rfl ⟨rfl, rfl, rfl, rfl, rfl⟩ rfl rfl rfl rfl rfl (by kernel_rfl) Tryz.func4 (by kernel_rfl)
    (of_decide_eq_true (by kernel_rfl)) (by unfold Func.isWrapper; first | (rw [if_pos (by decide +kernel)]; kernel_rfl) | (rw [if_neg (by decide +kernel)]; exact ⟨rfl, rfl⟩))
    (fun os started H enc _ => lifted os started H enc)
/-- The card. -/
theorem proved : Rows.FnProgramsCardSaid :=
  Claim7.holds_tied_plain_at .later [] [.data, .data, .data, .data, .sentinel, .sentinel, .pinned] true (true, "158d8bfc24e11b50ef0f974f5b35f03af841dfa6e673525f8e1c43d54ad0a08a") true
    row_holds (fun _ h => by cases h) (by kernel_rfl) (fun _ h => by cases h) fnPrograms_row_tie rfl ⟨rfl, rfl⟩ (by kernel_rfl) rfl
    (fun f fn hf hfn => by
      obtain rfl : f = 4 := Option.some.inj ((show Tryz.prog.funcNamed "loop.example/g00856/laws.FnPrograms" = some 4 by kernel_rfl).symm.trans hf) |>.symm
      obtain rfl : fn = Tryz.f4 := (Option.some.inj (Tryz.func4.symm.trans hfn)).symm
      exact ⟨by kernel_rfl, fun j t ht => by
        have hm : t ∈ Tryz.f4.params := Array.mem_of_getElem? ht
        have hall : (Tryz.f4.params.toList.all fun u => !Tryz.prog.wantsStandIn u) = true := by kernel_rfl
        exact (show Tryz.prog.wantsStandIn t = false by simpa using List.all_eq_true.1 hall t (Array.mem_toList_iff.2 hm))⟩)
    (by kernel_rfl)
#print axioms proved
end Go.Proofs.YtgmppfhokfifgaaGreatDoor.fnPrograms
