/-
  Proved here: for every input the law FnMirroredProgram returns true, and every argument reads behind the call as it read before. No condition.
-/
import Derived.Test.YtgmppfhokfifgaaShp
import Derived.Test.YtgmppfhokfifgaaA2c
import Derived.Test.YtgmppfhokfifgaaGmx
import Derived.Test.YtgmppfhokfifgaaMsj
import Derived.ProofKit
import Derived.OpenShut
import Derived.ShutString
import Derived.ChangeOld
import Derived.Below
import Derived.Deep.RegionHeld3
import Derived.Deep.DeepCutAuto
namespace Go.Proofs.Ytgmppfhokfifgaa.fnMirroredProgram
set_option maxRecDepth 10000
open Go.ChangeShapes Go.WideShapes Go.ChangeAt Go.RowKit
set_option linter.unusedVariables false

set_option maxRecDepth 100000 in
set_option maxHeartbeats 6400000 in
theorem walk (v0 : Value) (bs0 : List Int) (w : World) (h0 : SlB w w.heap.size v0 bs0) :
    Calls Try.prog 4 #[v0] w fun e w' => e = .returned (.bool true) ∧ Below w.heap.size w w' := by
  obtain ⟨A0, c0, rfl, hl0, hm0, -⟩ := id h0
  have hnil : SlB w w.heap.size (.slice none 0 0) [] := ⟨none, 0, rfl, Nat.le_refl _, by simp [maxLen], by simp, fun h => absurd h (by simp)⟩
  have HLG := Lib.hid (a2Long_any _ (.slice none 0 0) bs0 [] _ w h0 hnil)
  clear hnil
  cases hlong : (decide (3000 < (bs0.length : Int)) || decide (3000 < ((([] : List Int).length : Nat) : Int)))
  · rw [hlong] at HLG
    clear hlong
    go_enter Try.func4, Try.ntmps4
    go_wp2_with fail
    refine HLG.out.mono ?_
    rintro e w' ⟨rfl, rfl⟩
    clear HLG
    go_wp2_with fail
    refine (A2Program_any _ bs0 w h0).mono ?_
    rintro e w1 ⟨n, r, M, os, rfl, hn, hO, hD, hl, hb1⟩
    obtain ⟨A, c, rfl, -⟩ := id (hO.sl (Nat.le_refl _))
    obtain ⟨os2, p1, p2, p3, p4⟩ : ∃ os2, mpA n os = (os2, 0) ∧ mpA n os2 = (os, 0) ∧ rmR n os = (M, (os.length : Int), 0) ∧ rmR n os2 = (mirM M, (os.length : Int), 0) := ⟨_, mir_plain hD hn hl⟩
    have HOK := Lib.hid hD.ok
    have HWD := Lib.hid hD.wd
    have HP2 := Lib.hid p2
    have HP3 := Lib.hid p3
    have HP4 := Lib.hid p4
    have HO := Lib.hid hO
    have HB1 := Lib.hid hb1
    have hz1 := hb1.size
    have HS := Lib.hid (impl_MirrorProgram_any n _ os _ w1 (hO.sl (Nat.le_refl _)) (Nat.le_refl _))
    rw [p1] at HS
    clear hO hD hb1 h0 p1 p2 p3 p4 hl0 hm0
    go_wp2_with fail
    refine HS.out.mono ?_
    rintro e w2 ⟨r2, rfl, hO2, hb3⟩
    obtain ⟨A2, c2, rfl, -⟩ := id (hO2.sl (Nat.le_refl _))
    have hz2 := hb3.size
    have HO2 := Lib.hid hO2
    have HB3 := Lib.hid (HB1.out.trans (hb3.mono hz1))
    have HOa := Lib.hid (HO.out.below hb3 (Nat.le_refl _))
    clear hO2 hb3 HS
    have HS2 := Lib.hid (impl_MirrorProgram_any n _ os2 _ w2 (HO2.out.sl (Nat.le_refl _)) (Nat.le_refl _))
    rw [HP2.out] at HS2
    go_wp2_with fail
    refine HS2.out.mono ?_
    rintro e w3 ⟨r3, rfl, hO3, hb4⟩
    obtain ⟨A3, c3, rfl, -⟩ := id (hO3.sl (Nat.le_refl _))
    have hz3 := hb4.size
    have HB4 := Lib.hid (HB3.out.trans (hb4.mono HB3.out.size))
    have S3 := Lib.hid (hO3.sl (Nat.le_refl _))
    have S2 := Lib.hid ((HO2.out.below hb4 (Nat.le_refl _)).sl hz3)
    have S1 := Lib.hid ((HOa.out.below hb4 (by omega)).sl (Nat.le_trans hz2 hz3))
    clear hO3 hb4 HS2 HO2 HOa HO HP2 HB1 HB3
    go_wp2_with fail
    refine (a2Ops_yes S3.out S1.out).mono ?_
    rintro e w4 ⟨rfl, hq4⟩
    have hz4 := hq4.size
    have HB5 := Lib.hid (HB4.out.trans (hq4.mono HB4.out.size))
    have T2 := Lib.hid (S2.out.below hq4 (Nat.le_refl _))
    have T1 := Lib.hid (S1.out.below hq4 (Nat.le_refl _))
    clear hq4 S3 S2 S1 HB4
    have HR1 : Hid (Calls Try.prog 14 #[.int .i64 n, .slice A os.length c] w4 fun e w' => ∃ f b c l d, e = .returned (.tuple #[.agg #[.int .i64 M.wd, .int .i64 M.rk, f, b, c, l, d], .int .i64 (os.length : Int), .int .i64 0]) ∧ Hs w' w4.heap.size [mac_ f b c l d M] ∧ Below w4.heap.size w4 w') := Lib.hid (by have := spec_RunMachine_any (n := n) T1.out hz4; rw [HP3.out] at this; exact this)
    clear HP3
    go_wp2_with fail
    refine HR1.out.mono ?_
    rintro e w5 ⟨xf, xb, xk, xl, xd, rfl, hs5, hb5⟩
    obtain ⟨Sm, hm0, hSm, -⟩ := hs5.at_ [] _ []
    have hm5 : OwM w5 Sm xf xb xk xl xd M := hm0
    have hsl := hm5.sl fun j q => (hSm j q).2
    clear hm0 hm5 hSm hs5 HR1
    obtain ⟨⟨fA, fc, rfl⟩, ⟨bA, bc, rfl⟩, ⟨kA, kc, rfl⟩, ⟨lA, lc, rfl⟩, ⟨dA, dc, rfl⟩⟩ := hsl.forms
    have hz5 := hb5.size
    have ha6 := al1 w5 (.cells #[.int .i64 M.wd, .int .i64 M.rk, .slice fA M.fr.length fc, .slice bA M.bk.length bc, .slice kA M.cr.length kc, .slice lA M.lp.length lc, .slice dA M.dr.length dc] 39)
    have hx6 := alloc_at_ w5 (.cells #[.int .i64 M.wd, .int .i64 M.rk, .slice fA M.fr.length fc, .slice bA M.bk.length bc, .slice kA M.cr.length kc, .slice lA M.lp.length lc, .slice dA M.dr.length dc] 39)
    have G1 := Lib.hid (hsl.below ha6 (Nat.le_refl _))
    have HB6 := Lib.hid (HB5.out.trans ((hb5.trans (ha6.mono hz5)).mono HB5.out.size))
    have V2 := Lib.hid ((T2.out.below hb5 hz4).below ha6 (by omega))
    have HX6 := Lib.hid hx6
    have HZ6 : Hid ((w5.alloc (.cells #[.int .i64 M.wd, .int .i64 M.rk, .slice fA M.fr.length fc, .slice bA M.bk.length bc, .slice kA M.cr.length kc, .slice lA M.lp.length lc, .slice dA M.dr.length dc] 39)).heap.size = w5.heap.size + 1) := Lib.hid (by simp)
    clear ha6 hx6 hsl hb5 T1 T2 HB5
    go_wp2_with fail
    generalize hw6 : w5.alloc (.cells #[.int .i64 M.wd, .int .i64 M.rk, .slice fA M.fr.length fc, .slice bA M.bk.length bc, .slice kA M.cr.length kc, .slice lA M.lp.length lc, .slice dA M.dr.length dc] 39) = w6 at *
    clear hw6
    have HR2 : Hid (Calls Try.prog 14 #[.int .i64 n, .slice A2 os2.length c2] w6 fun e w' => ∃ f b c l d, e = .returned (.tuple #[.agg #[.int .i64 M.wd, .int .i64 (-M.rk), f, b, c, l, d], .int .i64 (os.length : Int), .int .i64 0]) ∧ Hs w' w6.heap.size [mac_ f b c l d (mirM M)] ∧ Below w6.heap.size w6 w') := Lib.hid (by have := spec_RunMachine_any (n := n) V2.out (by have := HZ6.out; omega); rw [HP4.out] at this; exact this)
    clear HP4
    refine HR2.out.mono ?_
    rintro e w7 ⟨yf, yb, yk, yl, yd, rfl, hs7, hb7⟩
    obtain ⟨Sx, hx0, hSx, -⟩ := hs7.at_ [] _ []
    have hx7 : OwM w7 Sx yf yb yk yl yd (mirM M) := hx0
    have hsx := hx7.sl fun j q => (hSx j q).2
    clear hx0 hx7 hSx hs7 HR2 V2
    have hlf : (mirM M).fr.length = M.fr.length := by simp [mirM]
    have hlb : (mirM M).bk.length = M.bk.length := by simp [mirM]
    have hlk : (mirM M).cr.length = M.cr.length := by simp [mirM]
    have hlj : (mirM M).lp.length = M.lp.length := by simp [mirM]
    have hld : (mirM M).dr.length = M.dr.length := by simp [mirM]
    obtain ⟨⟨gA, gc, hgf⟩, ⟨hA, hc, hgb⟩, ⟨iA, ic, hgk⟩, ⟨jA, jc, hgl⟩, ⟨pA, pc, hgd⟩⟩ := hsx.forms
    rw [hlf] at hgf
    rw [hlb] at hgb
    rw [hlk] at hgk
    rw [hlj] at hgl
    rw [hld] at hgd
    subst hgf hgb hgk hgl hgd
    clear hlf hlb hlk hlj hld
    have hz7 := hb7.size
    have ha8 := al1 w7 (.cells #[.int .i64 M.wd, .int .i64 (-M.rk), .slice gA M.fr.length gc, .slice hA M.bk.length hc, .slice iA M.cr.length ic, .slice jA M.lp.length jc, .slice pA M.dr.length pc] 39)
    have G2 := Lib.hid (hsx.below ha8 (Nat.le_refl _))
    have hb78 : Below w6.heap.size w6 (w7.alloc (.cells #[.int .i64 M.wd, .int .i64 (-M.rk), .slice gA M.fr.length gc, .slice hA M.bk.length hc, .slice iA M.cr.length ic, .slice jA M.lp.length jc, .slice pA M.dr.length pc] 39)) := hb7.trans (ha8.mono hz7)
    have G1b := Lib.hid (G1.out.below hb78 (by have := HZ6.out; omega))
    have HX8 := Lib.hid (keep_fwd hb78 HX6.out)
    have HY8 := Lib.hid (alloc_at_ w7 (.cells #[.int .i64 M.wd, .int .i64 (-M.rk), .slice gA M.fr.length gc, .slice hA M.bk.length hc, .slice iA M.cr.length ic, .slice jA M.lp.length jc, .slice pA M.dr.length pc] 39))
    have HB8 := Lib.hid (HB6.out.trans (hb78.mono HB6.out.size))
    have HZ8 : Hid ((w7.alloc (.cells #[.int .i64 M.wd, .int .i64 (-M.rk), .slice gA M.fr.length gc, .slice hA M.bk.length hc, .slice iA M.cr.length ic, .slice jA M.lp.length jc, .slice pA M.dr.length pc] 39)).heap.size = w7.heap.size + 1 ∧ w5.heap.size + 1 ≤ w7.heap.size) := Lib.hid ⟨by simp, by have := HZ6.out; omega⟩
    clear hsx hb7 ha8 hb78 G1 HX6 HB6
    go_upto_region 10 with fail
    generalize hw8 : w7.alloc (.cells #[.int .i64 M.wd, .int .i64 (-M.rk), .slice gA M.fr.length gc, .slice hA M.bk.length hc, .slice iA M.cr.length ic, .slice jA M.lp.length jc, .slice pA M.dr.length pc] 39) = w8 at *
    clear hw8
    obtain ⟨⟨-, m1, m2, m3, -, m5, -⟩, -, hml⟩ := box7 HX8.out
    obtain ⟨⟨-, y1, y2, y3, -, y5, -⟩, -, hyl⟩ := box7 HY8.out
    obtain ⟨hr0, hr1⟩ := HOK.out.rk
    have hwr : IntKind.i64.wrap (-M.rk) = -M.rk := IntWalk.i64_in _ (by omega)
    obtain ⟨Lf, hLf⟩ : ∃ L, L = M.fr.length := ⟨_, rfl⟩
    have HL1 := Lib.hid (show M.bk.length = Lf by rw [hLf]; have h1 := HOK.out.fr; have h2 := HOK.out.bk; omega)
    have HL0 := Lib.hid hLf
    clear hLf
    go_wp2_with fail
    go_loopw [16] (fun i wr => ∃ k : Nat, k ≤ M.fr.length ∧ i = .int .i64 k ∧ ∃ z, wr = w8.drewN z) (fun i _ => M.fr.length - (intOf i).toNat)
    case atStart => exact ⟨0, Nat.zero_le _, rfl, 0, rfl⟩
    case round =>
      obtain ⟨k, hk, rfl, z, rfl⟩ := hrel
      by_cases hlt : k < M.fr.length
      · have hltI : (k : Int) < (M.fr.length : Int) := by omega
        have hlf24 : M.fr.length ≤ 24 := by have := HOK.out.fr; have := HOK.out.wd; omega
        obtain ⟨j, hj⟩ : ∃ j : Nat, j = M.fr.length - 1 - k := ⟨_, rfl⟩
        have hB1 : w5.heap.size ≤ w8.heap.size := by have := HZ8.out; omega
        have hB2 : w7.heap.size ≤ w8.heap.size := by have := HZ8.out; omega
        have hLb : M.bk.length = M.fr.length := by rw [HL1.out, HL0.out]
        obtain ⟨fp, fo, fcap, fe, -, fk⟩ := SlS.rows G1b.out.fr hB1 (by omega)
        obtain ⟨bp, bo, bcap, be, -, bk⟩ := SlS.rows G1b.out.bk hB1 (by omega)
        obtain ⟨gp, go, gcap, ge, -, gk⟩ := SlS.rows G2.out.fr hB2 (by simp [mirM]; omega)
        obtain ⟨hp_, ho, hcap, he, -, hk_⟩ := SlS.rows G2.out.bk hB2 (by simp [mirM]; omega)
        simp only [Value.slice.injEq] at fe be ge he
        obtain ⟨rfl, -, rfl⟩ := fe
        obtain ⟨rfl, -, rfl⟩ := be
        obtain ⟨rfl, -, rfl⟩ := ge
        obtain ⟨rfl, -, rfl⟩ := he
        obtain ⟨a1, k1, q1⟩ := fk j (by omega)
        obtain ⟨a2, k2, q2⟩ := bk j (by omega)
        obtain ⟨a3, k3, q3⟩ := gk k (by simp [mirM]; omega)
        obtain ⟨a4, k4, q4⟩ := hk_ k (by simp [mirM]; omega)
        obtain ⟨r1, s1⟩ := q1 w8 (Below.refl _ _)
        obtain ⟨r2, s2⟩ := q2 w8 (Below.refl _ _)
        obtain ⟨r3, s3⟩ := q3 w8 (Below.refl _ _)
        obtain ⟨r4, s4⟩ := q4 w8 (Below.refl _ _)
        have e3 : gl (mirM M).fr k = gl M.fr j := by
          have := gl_rev (L := M.fr) (k := j) (by omega)
          rwa [show M.fr.length - 1 - j = k by omega] at this
        have e4 : gl (mirM M).bk k = gl M.bk j := by
          have := gl_rev (L := M.bk) (k := j) (by omega)
          rwa [show M.bk.length - 1 - j = k by omega] at this
        rw [e3] at r3 s3
        rw [e4] at r4 s4
        have hw1 : IntKind.i64.wrap ((M.fr.length : Int) - 1) = (M.fr.length : Int) - 1 := IntWalk.i64_in _ (by have := HOK.out.fr; have := HOK.out.wd; omega)
        have hw2 : IntKind.i64.wrap ((M.fr.length : Int) - 1 - (k : Int)) = (j : Int) := by rw [IntWalk.i64_in _ (by have := HOK.out.fr; have := HOK.out.wd; omega)]; omega
        have hj0 : (0 : Int) ≤ (j : Int) := by omega
        have hj1 : (j : Int) < (M.fr.length : Int) := by omega
        have hj2 : (j : Int) < (M.bk.length : Int) := by omega
        have hk2 : (k : Int) < (M.bk.length : Int) := by omega
        have HS1 := Lib.hid s1
        have HS2 := Lib.hid s2
        have HS3 := Lib.hid s3
        have HS4 := Lib.hid s4
        clear fk bk gk hk_ q1 q2 q3 q4 e3 e4 hj hLb s1 s2 s3 s4
        generalize gl M.fr j = row1 at *
        generalize gl M.bk j = row2 at *
        go_wp2_with fail
        go_quiet (first | (go_at_call_of 10 (Go.Value.slice a3 row1.length k3); exact a2Same_q HS3.out HS1.out _ _) | (go_at_call 10; exact a2Same_q HS4.out HS2.out _ _))
        go_wp2
        go_roundw
        case rel => exact ⟨k + 1, by omega, by go_num, _, rfl⟩
        case measure => simp [intOf]; omega
      · obtain ⟨w9, hw9⟩ : ∃ x, x = w8.drewN z := ⟨_, rfl⟩
        have hb9 : Below w8.heap.size w8 w9 := by rw [hw9]; exact drewN_below w8 _ z
        have hz9 := hb9.size
        have X9 := Lib.hid (keep_fwd hb9 HX8.out)
        have Y9 := Lib.hid (keep_fwd hb9 HY8.out)
        have HB9 := Lib.hid (HB8.out.trans (hb9.mono HB8.out.size))
        have N1 := Lib.hid (G1b.out.below hb9 (by have := HZ8.out; omega))
        have N2 := Lib.hid (G2.out.below hb9 (by have := HZ8.out; omega))
        rw [← hw9]
        clear hb9 hw9 HX8 HY8 HB8 G1b G2 m1 m2 m3 m5 y1 y2 y3 y5 hml hyl
        obtain ⟨⟨-, -, -, -, -, m5, -⟩, -, hml⟩ := box7 X9.out
        go_wp2_with fail
        clear m5
        go_loopw [17] (fun i wr => ∃ k : Nat, k ≤ M.lp.length ∧ i = .int .i64 k ∧ Below w9.heap.size w9 wr) (fun i _ => M.lp.length - (intOf i).toNat)
        case atStart => exact ⟨0, Nat.zero_le _, rfl, Below.refl _ _⟩
        case round =>
          obtain ⟨k, hk, rfl, hb⟩ := hrel
          have HB := Lib.hid hb
          have hzr := hb.size
          obtain ⟨⟨-, -, -, -, -, m5, -⟩, -, hml⟩ := box7 (keep_fwd hb X9.out)
          obtain ⟨⟨-, -, -, -, -, y5, -⟩, -, hyl⟩ := box7 (keep_fwd hb Y9.out)
          by_cases hlt : k < M.lp.length
          · have hltI : (k : Int) < (M.lp.length : Int) := by omega
            have hlp := HOK.out.lp
            have hB1 : w5.heap.size ≤ w9.heap.size := by have := HZ8.out; omega
            have hB2 : w7.heap.size ≤ w9.heap.size := by have := HZ8.out; omega
            obtain ⟨A5, c5, e5, k5⟩ := SlF.rows N1.out.lp hB1
            obtain ⟨A6, c6, e6, k6⟩ := SlF.rows N2.out.lp hB2
            simp only [Value.slice.injEq] at e5 e6
            obtain ⟨rfl, -, rfl⟩ := e5
            obtain ⟨rfl, -, rfl⟩ := e6
            obtain ⟨lp, lo, rfl, -, k5⟩ := k5 (by omega)
            obtain ⟨jp, jo, rfl, -, k6⟩ := k6 (by simp [mirM]; omega)
            obtain ⟨a5, b5, q5⟩ := k5 k hlt
            obtain ⟨a6, b6, q6⟩ := k6 k (by simp [mirM]; omega)
            obtain ⟨⟨r0, r1, r2, r3, r4, r5⟩, s5⟩ := q5 wr hb
            obtain ⟨⟨T0, T1, T2, T3, T4, T5⟩, s6⟩ := q6 wr hb
            have e6 : gl (mirM M).lp k = mirI M.wd (gl M.lp k) := gl_mapS hlt
            rw [e6] at T0 T1 T2 T3 T4 T5 s6
            have hin := HOK.out.inf k hlt
            simp only [infI, infB, Bool.and_eq_true, inR_iff, dirB, Bool.or_eq_true, beq_iff_eq] at hin
            obtain ⟨⟨⟨⟨⟨⟨-, hat0, hat1⟩, hdir⟩, -⟩, -⟩, -⟩, -⟩ := hin
            have hwd := HOK.out.wd
            have hnw := HWD.out
            have HS5 := Lib.hid s5
            have HS6 := Lib.hid (show Sl wr _ (.slice a6 ((gl M.lp k).drop 5).length b6) ((gl M.lp k).drop 5) from s6)
            have t0 : wr.cell? ⟨jp, jo + k * 6, none⟩ = some (.int .i64 (gi (gl M.lp k) 0)) := T0
            have t1 : wr.cell? ⟨jp, jo + k * 6 + 1, none⟩ = some (.int .i64 (gi (gl M.lp k) 1)) := T1
            have t2 : wr.cell? ⟨jp, jo + k * 6 + 2, none⟩ = some (.int .i64 (gi (gl M.lp k) 2)) := T2
            have t3 : wr.cell? ⟨jp, jo + k * 6 + 3, none⟩ = some (.int .i64 (M.wd - 1 - gi (gl M.lp k) 3)) := T3
            have t4 : wr.cell? ⟨jp, jo + k * 6 + 4, none⟩ = some (.int .i64 (-gi (gl M.lp k) 4)) := T4
            have t5 : wr.cell? ⟨jp, jo + k * 6 + 5, none⟩ = some (.slice a6 ((gl M.lp k).drop 5).length b6) := T5
            rw [hnw] at t3 hat1
            clear k5 k6 q5 q6 s5 s6 e6 T0 T1 T2 T3 T4 T5
            generalize gi (gl M.lp k) 0 = i0 at *
            generalize gi (gl M.lp k) 1 = i1 at *
            generalize gi (gl M.lp k) 2 = i2 at *
            generalize gi (gl M.lp k) 3 = i3 at *
            generalize gi (gl M.lp k) 4 = i4 at *
            generalize (gl M.lp k).drop 5 = ps at *
            have hw1 : IntKind.i64.wrap (n - 1) = n - 1 := IntWalk.i64_in _ (by omega)
            have hw2 : IntKind.i64.wrap (n - 1 - i3) = n - 1 - i3 := IntWalk.i64_in _ (by omega)
            have hw3 : IntKind.i64.wrap (-i4) = -i4 := IntWalk.i64_in _ (by omega)
            have hg1 := heap_lt (keep_fwd hb X9.out)
            have hg2 := heap_lt (keep_fwd hb Y9.out)
            have hlpb : lp < wr.heap.size := block_lt_of_cell r0
            have hjpb : jp < wr.heap.size := block_lt_of_cell t0
            clear hb hnw hwd hdir
            have z1 := al1 wr (.cells #[.int .i64 i0, .int .i64 i1, .int .i64 i2, .int .i64 i3, .int .i64 i4, .slice a5 ps.length b5] 43)
            have z2 := al1 (wr.alloc (.cells #[.int .i64 i0, .int .i64 i1, .int .i64 i2, .int .i64 i3, .int .i64 i4, .slice a5 ps.length b5] 43)) (.cells #[.int .i64 i0, .int .i64 i1, .int .i64 i2, .int .i64 (n - 1 - i3), .int .i64 (-i4), .slice a6 ps.length b6] 43)
            have z3 := z1.trans (z2.mono z1.size)
            have HZ3 := Lib.hid z3
            have S5 := Lib.hid (HS5.out.below z3 (by omega))
            have S6 := Lib.hid (HS6.out.below z3 (by omega))
            clear z1 z2 z3
            go_wp2_with fail
            refine (a2Same_yes S5.out S6.out rfl).mono ?_
            rintro e wq ⟨rfl, hq⟩
            have HBq := Lib.hid (HB.out.trans ((HZ3.out.trans (hq.mono HZ3.out.size)).mono hzr))
            clear hq
            go_wp2_with fail
            go_roundw
            case rel => exact ⟨k + 1, by omega, by go_num, HBq.out⟩
            case measure => simp [intOf]; omega
          · go_wp2_with fail
            go_ret
            exact ⟨rfl, HB9.out.trans (HB.out.mono HB9.out.size)⟩
  · rw [hlong] at HLG
    clear hlong
    go_enter Try.func4, Try.ntmps4
    go_wp2_with fail
    refine HLG.out.mono ?_
    rintro e w' ⟨rfl, rfl⟩
    go_wp2_with fail
    go_ret
    exact ⟨rfl, Below.refl _ _⟩

set_option maxRecDepth 100000 in
theorem lifted (os : Os) (started : os.Started) (H : Type) (enc : TypeId × Value → H) :
    ReturnsInHanded {} Try.checked os 4 .any (Rows.fnMirroredProgramSpec.pre6 enc Try.prog Try.f4 Rows.fnMirroredProgramRow.domain false) (Rows.fnMirroredProgramSpec.post enc Try.prog Try.f4 false true false false) := by
  refine returnsInHanded_of_change (C := Try.checked) own_knob started (by kernel_rfl) Try.func4
    (ChangeSpec.witness6 (enc := enc) (C := Try.checked) false ⟨#[], #[.slice none 0 0], []⟩ 8 (by kernel_rfl) (by kernel_rfl) (by kernel_rfl) (by kernel_rfl)) ?_
  intro W base args ds gs before hval0 hW hcnd _
  have hval : ∀ (j : Nat) t v, Try.f4.params[j]? = some t → args[j]? = some v → Value.okWide Try.prog W .any base t v := hval0
  have hW' := hW
  obtain ⟨p, q, hA0, hV, rfl, hfz, hnd⟩ := hW
  have hA : DataW.TrodAll enc Try.prog W 0 (fun _ => true) true Try.f4.params.toList args.toList ds p := hA0
  rw [Try.params4] at hA hval
  obtain ⟨v0, vs0, d0, ds0, p0, q0, hargs, rfl, rfl, h0, r0⟩ := trodAll_cons hA
  obtain ⟨rfl, rfl, rfl⟩ := trodAll_nil r0
  obtain rfl : args = #[v0] := by cases args; simp_all
  obtain ⟨rfl, rfl⟩ := trodVars_none hV
  have k0 := h0
  have lt0 : ∀ x ∈ p0, x.block < W.heap.size := by obtain ⟨m, hm⟩ := k0; exact DataW.trod_lt m _ _ _ hm
  obtain ⟨bs0, s0⟩ := open_SlB (hval 0 22 v0 rfl rfl) h0
  clear hA0 hval0
  refine (walk v0 bs0 W s0).mono fun e W' ⟨he, bel⟩ => ?_
  subst he
  exact ⟨_, rfl, _, _, _, [], _, [], hW', trodAll_mk1 (shut_bool Try.underlying4 _), (trodAll_cons_mk (Below.trod laid_out (by kernel_rfl) (of_decide_eq_true (by kernel_rfl)) k0 bel lt0) trodAll_mk0), rfl, bel.frame _, fun h => by cases h⟩

/-- The statement. -/
theorem proved : Rows.FnMirroredProgramSaid :=
  OpenClaim.holds_of_wide 4 Try.f4 rfl rfl rfl rfl rfl rfl rfl ⟨rfl, rfl, rfl, rfl, rfl⟩ rfl rfl rfl rfl rfl (by kernel_rfl) Try.func4 (by kernel_rfl)
    (of_decide_eq_true (by kernel_rfl)) (by unfold Func.isWrapper; first | (rw [if_pos (by decide +kernel)]; kernel_rfl) | (rw [if_neg (by decide +kernel)]; exact ⟨rfl, rfl⟩))
    (fun os started H enc _ => lifted os started H enc)
#print axioms proved
end Go.Proofs.Ytgmppfhokfifgaa.fnMirroredProgram
