/-
  Contracts: the reference's RunMachine, CheckProgram. Printed by gen_rms.py.
-/
import Derived.Test.YtgmppfhokfifgaaGmh
import Derived.Test.YtgmppfhokfifgaaGmb
import Derived.Test.YtgmppfhokfifgaaMsj
namespace Go.Proofs.Ytgmppfhokfifgaa
set_option maxRecDepth 10000
open Go.RowKit

/-- A machine of the call's own, and a box that holds it. -/
theorem OwM.into {w : World} {S : Nat → Prop} {f b c l d : Value} {m : Mac} {r : Nat} (h : OwM w S f b c l d m) (hr : ¬ S r) (hx : w.heap[r]? = some (.cells #[.int .i64 m.wd, .int .i64 m.rk, f, b, c, l, d] 39)) : OwBox w (fun k => S k ∨ k = r) r m := by
  classical
  obtain ⟨tag, h2⟩ := h
  have hm : ∀ t k, S k ∧ tag k = t → (S k ∨ k = r) ∧ (if k = r then 5 else tag k) = t := fun t k q => ⟨.inl q.1, by rw [if_neg (fun e : k = r => hr (by rw [← e]; exact q.1))]; exact q.2⟩
  exact ⟨f, b, c, l, d, fun k => if k = r then 5 else tag k, .inr rfl, if_pos rfl, hx, h2.fr.mono (hm 0), h2.bk.mono (hm 1), h2.cr.mono (hm 2), h2.lp.mono (hm 3), rw_mono h2.dr (hm 4)⟩
theorem OpL.of {w : World} {pb po : Nat} {o : List Int} (h0 : w.cell? ⟨pb, po, none⟩ = some (.int .i64 (gi o 0))) (h1 : w.cell? ⟨pb, po + 1, none⟩ = some (.int .i64 (gi o 1))) (h2 : w.cell? ⟨pb, po + 2, none⟩ = some (.int .i64 (gi o 2))) (h3 : w.cell? ⟨pb, po + 3, none⟩ = some (.int .i64 (gi o 3))) (h4 : w.cell? ⟨pb, po + 4, none⟩ = some (.int .i64 (gi o 4))) (h5 : w.cell? ⟨pb, po + 5, none⟩ = some (.int .i64 (gi o 5))) (h6 : w.cell? ⟨pb, po + 6, none⟩ = some (.int .i64 (gi o 6))) (h7 : w.cell? ⟨pb, po + 7, none⟩ = some (.int .i64 (gi o 7))) : OpL w pb po o := ⟨h0, h1, h2, h3, h4, h5, h6, h7⟩
set_option maxRecDepth 100000 in
set_option maxHeartbeats 12800000 in
theorem spec_RunMachine_any {n : Int} {v : Value} {os : List (List Int)} {B : Nat} {w : World} (h : SlR 8 w B v os) (hB : B ≤ w.heap.size) :
    Calls Try.prog 14 #[.int .i64 n, v] w fun e w' => ∃ f b c l d, e = .returned (.tuple #[.agg #[.int .i64 (rmR n os).1.wd, .int .i64 (rmR n os).1.rk, f, b, c, l, d], .int .i64 (rmR n os).2.1, .int .i64 (rmR n os).2.2]) ∧ Hs w' w.heap.size [mac_ f b c l d (rmR n os).1] ∧ Below w.heap.size w w' := by
  obtain ⟨A, cA, rfl, -⟩ := id h
  have HR0 := Lib.hid h
  have HXR := Lib.hid (alloc_at_ w (.cells #[.int .i64 0, .int .i64 0, .slice none 0 0, .slice none 0 0, .slice none 0 0, .slice none 0 0, .slice none 0 0] 39))
  have HBA := Lib.hid (al1 w (.cells #[.int .i64 0, .int .i64 0, .slice none 0 0, .slice none 0 0, .slice none 0 0, .slice none 0 0, .slice none 0 0] 39))
  have HZA : Hid ((w.alloc (.cells #[.int .i64 0, .int .i64 0, .slice none 0 0, .slice none 0 0, .slice none 0 0, .slice none 0 0, .slice none 0 0] 39)).heap.size = w.heap.size + 1) := Lib.hid (by simp)
  have HV := Lib.hid (l07Ops_any n _ os B (w.alloc (.cells #[.int .i64 0, .int .i64 0, .slice none 0 0, .slice none 0 0, .slice none 0 0, .slice none 0 0, .slice none 0 0] 39)) (h.below (al1 w (.cells #[.int .i64 0, .int .i64 0, .slice none 0 0, .slice none 0 0, .slice none 0 0, .slice none 0 0, .slice none 0 0] 39)) hB) (by simp; omega))
  clear h
  cases hk : okOps n os
  · rw [hk] at HV
    rw [rmR_no hk]
    clear hk HR0
    go_enter Try.func14, Try.ntmps14
    go_wp2_with fail
    refine HV.out.mono ?_
    rintro e w2 ⟨rfl, hq⟩
    have hxr := (hq.block w.heap.size (by have := HZA.out; omega)).trans HXR.out
    obtain ⟨⟨v0, v1, v2, v3, v4, v5, v6⟩, tf, -⟩ := box7 hxr
    have tf0 := tf 0
    have tf1 := tf 1
    have tf2 := tf 2
    have tf3 := tf 3
    have tf4 := tf 4
    have tf5 := tf 5
    have tf6 := tf 6
    obtain ⟨y1, y2, y3⟩ := Hs.lay (w0 := w) (lo := w2.heap.size) (m := zeroM) (HBA.out.trans (hq.mono HBA.out.size)) (hs_zeroM w2) (by have := hq.size; have := HZA.out; omega) hxr (Nat.le_refl _)
    have HN := Lib.hid (box7 y1).1
    have H2 := Lib.hid y2
    have H3 := Lib.hid y3
    clear y1 y2 y3 hq hxr tf
    go_wp2_with fail
    obtain ⟨n0', n1', n2', n3', n4', n5', n6'⟩ := HN.out
    simp only [zeroM] at n0' n1' n2' n3' n4' n5' n6'
    refine bodyPost_ret (v := .tuple #[.agg #[.int .i64 0, .int .i64 0, .slice none 0 0, .slice none 0 0, .slice none 0 0, .slice none 0 0, .slice none 0 0], .int .i64 0, .int .i64 1]) (by simp [results, Try.results14, go_sem, n0', n1', n2', n3', n4', n5', n6']) rfl ?_
    exact ⟨_, _, _, _, _, rfl, H2.out, H3.out⟩
  · rw [hk] at HV
    rw [rmR_yes hk]
    obtain ⟨⟨n0, n1⟩, hol, hops⟩ := okOps_facts hk
    have HOPS := Lib.hid hops
    obtain ⟨R, hR⟩ : ∃ R, R = runL (newM n) 0 os := ⟨_, rfl⟩
    rw [← hR]
    have HR := Lib.hid hR
    have HNM := Lib.hid (newM_ok n0 n1)
    clear hk hops hR
    go_enter Try.func14, Try.ntmps14
    go_wp2_with fail
    refine HV.out.mono ?_
    rintro e w1 ⟨rfl, hq⟩
    have HB1 := Lib.hid (HBA.out.trans (hq.mono HBA.out.size))
    have HRB := Lib.hid ((hq.block w.heap.size (by have := HZA.out; omega)).trans HXR.out)
    have HZ1 : Hid (w.heap.size + 1 ≤ w1.heap.size) := Lib.hid (by have := hq.size; have := HZA.out; omega)
    clear hq HV
    go_wp2_with fail
    refine (l07New_any n w1 n0 n1).mono ?_
    rintro e w2 ⟨f, b, c, l, d, rfl, hs2, hb2⟩
    obtain ⟨Sm, hmac0, hSm, -⟩ := hs2.at_ [] _ []
    have hmac : OwM w2 Sm f b c l d (newM n) := hmac0
    clear hmac0
    obtain ⟨⟨fA, fc, rfl⟩, ⟨bA, bc, rfl⟩, ⟨kA, kc, rfl⟩, ⟨lA, lc, rfl⟩, ⟨dA, dc, rfl⟩⟩ := (hmac.sl fun k q => (hSm k q).2).forms
    have hbx := hmac.box fun k q => (hSm k q).2
    have HBX := Lib.hid hbx
    have HSM := Lib.hid hSm
    have HB2 := Lib.hid hb2
    have hg2 := hb2.size
    clear hs2 hmac hbx hSm hb2
    go_wp2_with fail
    go_loopw [8] (fun i wr => ∃ (k : Nat) (M : Mac), k ≤ os.length ∧ i = .int .i64 k ∧ OkM M ∧ M.wd = n ∧ R = runL M k (os.drop k) ∧ OwBox wr (fun j => w1.heap.size ≤ j ∧ j < wr.heap.size) w2.heap.size M ∧ Below w1.heap.size w1 wr) (fun i _ => os.length - (intOf i).toNat)
    case atStart =>
      refine ⟨0, newM n, Nat.zero_le _, rfl, HNM.out, rfl, HR.out, HBX.out.mono fun j q => ?_, HB2.out.trans ((al1 w2 _).mono hg2)⟩
      rcases q with q | q
      · have := HSM.out j q
        exact ⟨this.1, by simp; omega⟩
      · subst q
        exact ⟨hg2, by simp⟩
    case round =>
      obtain ⟨k, M, hk, rfl, hokM, hwM, hrun, hx, hb⟩ := hrel
      clear HBX HSM HNM HR
      have hz := hb.size
      have HB := Lib.hid hb
      have HBW := Lib.hid (HB1.out.trans (hb.mono HB1.out.size))
      have HOKM := Lib.hid hokM
      have HWM := Lib.hid hwM
      have HRUN := Lib.hid hrun
      have HX := Lib.hid hx
      have hwl : w.heap.size < wr.heap.size := by have := HZ1.out; omega
      clear hb hokM hwM hrun hx
      by_cases hlt : k < os.length
      · have hltI : (k : Int) < (os.length : Int) := by omega
        obtain ⟨pb, po, rfl⟩ := HR0.out.addr (by omega)
        obtain ⟨-, hpl, q0, q1, q2, q3, q4, q5, q6, q7⟩ := HR0.out.opAt hlt
        have HOPL := Lib.hid (fun (W : World) (q : Below w.heap.size w W) => OpL.of (o := gl os k) (pb := pb) (po := po + k * 8) ((q.cell hpl).trans q0) ((q.cell hpl).trans q1) ((q.cell hpl).trans q2) ((q.cell hpl).trans q3) ((q.cell hpl).trans q4) ((q.cell hpl).trans q5) ((q.cell hpl).trans q6) ((q.cell hpl).trans q7))
        clear q0 q1 q2 q3 q4 q5 q6 q7
        obtain ⟨ho1, ho2, ho3⟩ := HOPS.out k hlt
        have HOP : Hid (OpOk M (gl os k)) := Lib.hid ⟨ho1, by rw [HWM.out]; exact ho2, by rw [HWM.out]; exact ho3⟩
        clear ho1 ho2 ho3
        obtain ⟨mf, mb, mc, ml, md, hxm, hsm, -⟩ := HX.out.rd (B := wr.heap.size) (fun j q => q.2)
        have HOWN := Lib.hid (l07Own_any hxm hsm (Nat.le_refl _) HOKM.out)
        have HXM := Lib.hid hxm
        have hgl := heap_lt hxm
        clear hxm hsm
        go_wp2_with fail
        refine HOWN.out.mono ?_
        rintro e w3 ⟨f, b, c, l, d, rfl, hm3, hb3⟩
        obtain ⟨⟨fA3, fc3, rfl⟩, ⟨bA3, bc3, rfl⟩, ⟨kA3, kc3, rfl⟩, ⟨lA3, lc3, rfl⟩, ⟨dA3, dc3, rfl⟩⟩ := (hm3.sl fun k q => q.2).forms
        have hz3 := hb3.size
        have hbx3 := hm3.box fun k q => q.2
        have hS3 : ∀ j, ((wr.heap.size ≤ j ∧ j < w3.heap.size) ∨ j = w3.heap.size) → j < (w3.alloc (.cells #[.int .i64 M.wd, .int .i64 M.rk, .slice fA3 M.fr.length fc3, .slice bA3 M.bk.length bc3, .slice kA3 M.cr.length kc3, .slice lA3 M.lp.length lc3, .slice dA3 M.dr.length dc3] 39)).heap.size := fun j q => by
          rw [World.size_alloc]
          rcases q with q | q <;> omega
        have b4 : Below wr.heap.size wr (w3.alloc (.cells #[.int .i64 M.wd, .int .i64 M.rk, .slice fA3 M.fr.length fc3, .slice bA3 M.bk.length bc3, .slice kA3 M.cr.length kc3, .slice lA3 M.lp.length lc3, .slice dA3 M.dr.length dc3] 39)) := hb3.trans ((al1 w3 _).mono hz3)
        have HDO := Lib.hid (l07Do_any hbx3 hS3 (HOPL.out _ (HBW.out.trans (b4.mono HBW.out.size))) (fun q => by rcases q with q | q <;> omega) HOKM.out HOP.out)
        have HB4 := Lib.hid b4
        obtain ⟨cd, hcd⟩ : ∃ cd, cd = codeM M (gl os k) := ⟨_, rfl⟩
        rw [← hcd] at HDO
        have HCD := Lib.hid hcd
        clear hm3 hb3 hbx3 hS3 b4 hcd HOWN
        go_wp2_with fail
        refine HDO.out.mono ?_
        rintro e w6 ⟨rfl, hx6, hc6⟩
        have hz6 := hc6.size
        simp only [World.size_alloc] at hz6
        have b6 : Below wr.heap.size wr w6 := by
          have h4 := HB4.out
          exact h4.trans ⟨hc6.os, hc6.tape, hc6.output, hc6.size, fun j hj => hc6.block j (by have := h4.size; simp only [World.size_alloc] at this ⊢; omega) (fun q => by rcases q with q | q <;> omega)⟩
        have HX6 := Lib.hid hx6
        have HOLD := Lib.hid ((HX.out.below (fun j q => q.2) b6).mono (S' := (fun j => w1.heap.size ≤ j ∧ j < w6.heap.size)) fun j q => ⟨q.1, by have := q.2; omega⟩)
        have HXM6 := Lib.hid ((b6.block _ hgl).trans HXM.out)
        have HB6 := Lib.hid (HB.out.trans (b6.mono hz))
        have HBW6 := Lib.hid (HB1.out.trans (HB6.out.mono HB1.out.size))
        clear hx6 hc6 b6 HDO
        by_cases hcz : cd = 0
        · subst hcz
          have h6 := HX6.out rfl
          obtain ⟨f, b, c, l, d, e1, e2, e3, e4, e5⟩ := h6.out (r := w2.heap.size) (fun q => by
            rcases q with (q | q) | q
            · omega
            · omega
            · have := q.1; simp only [World.size_alloc] at this; omega) HXM6.out
          have hlt6 : ∀ q, Now (fun k => (wr.heap.size ≤ k ∧ k < w3.heap.size) ∨ k = w3.heap.size) (w3.alloc (.cells #[.int .i64 M.wd, .int .i64 M.rk, .slice fA3 M.fr.length fc3, .slice bA3 M.bk.length bc3, .slice kA3 M.cr.length kc3, .slice lA3 M.lp.length lc3, .slice dA3 M.dr.length dc3] 39)) w6 q → wr.heap.size ≤ q ∧ q < w6.heap.size := fun q qq => by
            rcases qq with (qq | qq) | qq
            · omega
            · omega
            · have h1 := qq.1
              simp only [World.size_alloc] at h1
              exact ⟨by omega, qq.2⟩
          obtain ⟨⟨xA, xc, rfl⟩, ⟨yA, yc, rfl⟩, ⟨zA, zc, rfl⟩, ⟨tA, tc, rfl⟩, ⟨uA, uc, rfl⟩⟩ := (e3.sl (B := w6.heap.size) (fun q qq => (hlt6 q qq).2)).forms
          have hin := e3.into (fun q => by have := (hlt6 _ q).1; omega) e2
          obtain ⟨⟨u0, u1, u2, u3, u4, u5, u6⟩, -, -⟩ := box7 e1
          obtain ⟨⟨v0, v1, v2, v3, v4, v5, v6⟩, tf, -⟩ := box7 HXM6.out
          have tf0 := tf 0
          have tf1 := tf 1
          have tf2 := tf 2
          have tf3 := tf 3
          have tf4 := tf 4
          have tf5 := tf 5
          have tf6 := tf 6
          have HIN := Lib.hid hin
          have HE := Lib.hid e4
          have HB7 := Lib.hid (HB6.out.trans (e5.mono (by omega)))
          have HLT := Lib.hid hlt6
          have hwz : wr.heap.size ≤ w6.heap.size := by omega
          clear h6 e1 e2 e3 e4 e5 hin hlt6 tf
          go_wp2_with fail
          go_roundw
          case rel =>
            refine ⟨k + 1, stepM M (gl os k), by omega, by go_num, stepM_ok HOKM.out HOP.out HCD.out.symm, by rw [stepM_wd]; exact HWM.out, by rw [HRUN.out, runL_go hlt HCD.out.symm], HIN.out.mono fun q qq => ?_, HB7.out⟩
            rw [HE.out]
            rcases qq with qq | qq
            · have := HLT.out q qq
              exact ⟨by omega, this.2⟩
            · subst qq
              exact ⟨hg2, by omega⟩
          case measure => simp [intOf]; omega
        · have HRES : Hid (R = (M, (k : Int), cd)) := Lib.hid (by rw [HRUN.out, runL_stop hlt (by rw [← HCD.out]; exact hcz), HCD.out])
          have hxr := (HB6.out.block w.heap.size (by have := HZ1.out; omega)).trans HRB.out
          obtain ⟨f, b, c, l, d, e1, e2, e3, e4, e5⟩ := HOLD.out.out (r := w.heap.size) (fun q => by have := q.1; have := HZ1.out; omega) hxr
          obtain ⟨⟨xA, xc, rfl⟩, ⟨yA, yc, rfl⟩, ⟨zA, zc, rfl⟩, ⟨tA, tc, rfl⟩, ⟨uA, uc, rfl⟩⟩ := (e3.sl (B := w6.heap.size) (fun q qq => qq.2)).forms
          obtain ⟨⟨u0, u1, u2, u3, u4, u5, u6⟩, -, -⟩ := box7 e1
          obtain ⟨⟨v0, v1, v2, v3, v4, v5, v6⟩, tf, -⟩ := box7 hxr
          have tf0 := tf 0
          have tf1 := tf 1
          have tf2 := tf 2
          have tf3 := tf 3
          have tf4 := tf 4
          have tf5 := tf 5
          have tf6 := tf 6
          have HN := Lib.hid (box7 e2).1
          have HO := Lib.hid e3
          have HE := Lib.hid e4
          have HZ := Lib.hid (HBW6.out.trans e5)
          clear hxr e1 e2 e3 e4 e5 tf
          go_upto_if 30 with fail
          rw [show (cd != 0) = true from by simpa using hcz]
          go_wp2_with fail
          obtain ⟨n0', n1', n2', n3', n4', n5', n6'⟩ := HN.out
          refine bodyPost_ret (v := .tuple #[.agg #[.int .i64 M.wd, .int .i64 M.rk, .slice xA M.fr.length xc, .slice yA M.bk.length yc, .slice zA M.cr.length zc, .slice tA M.lp.length tc, .slice uA M.dr.length uc], .int .i64 k, .int .i64 cd]) (by simp [results, Try.results14, go_sem, n0', n1', n2', n3', n4', n5', n6']) rfl ?_
          refine ⟨_, _, _, _, _, by rw [HRES.out], ?_, HZ.out⟩
          rw [HRES.out]
          exact OwM.hs HZ.out (HO.out.mono fun q qq => ⟨by have := qq.1; have := HZ1.out; omega, by rw [HE.out]; exact qq.2⟩)
      · obtain rfl : k = os.length := by omega
        have HRES : Hid (R = (M, (os.length : Int), 0)) := Lib.hid (by rw [HRUN.out, runL_end])
        have hxr := (HB.out.block w.heap.size (by have := HZ1.out; omega)).trans HRB.out
        obtain ⟨f, b, c, l, d, e1, e2, e3, e4, e5⟩ := HX.out.out (r := w.heap.size) (fun q => by have := q.1; have := HZ1.out; omega) hxr
        obtain ⟨⟨xA, xc, rfl⟩, ⟨yA, yc, rfl⟩, ⟨zA, zc, rfl⟩, ⟨tA, tc, rfl⟩, ⟨uA, uc, rfl⟩⟩ := (e3.sl (B := wr.heap.size) (fun q qq => qq.2)).forms
        obtain ⟨⟨u0, u1, u2, u3, u4, u5, u6⟩, -, -⟩ := box7 e1
        obtain ⟨⟨v0, v1, v2, v3, v4, v5, v6⟩, tf, -⟩ := box7 hxr
        have tf0 := tf 0
        have tf1 := tf 1
        have tf2 := tf 2
        have tf3 := tf 3
        have tf4 := tf 4
        have tf5 := tf 5
        have tf6 := tf 6
        have HN := Lib.hid (box7 e2).1
        have HO := Lib.hid e3
        have HE := Lib.hid e4
        have HZ := Lib.hid (HBW.out.trans e5)
        clear hxr e1 e2 e3 e4 e5 tf
        go_wp2_with fail
        obtain ⟨n0', n1', n2', n3', n4', n5', n6'⟩ := HN.out
        refine bodyPost_ret (v := .tuple #[.agg #[.int .i64 M.wd, .int .i64 M.rk, .slice xA M.fr.length xc, .slice yA M.bk.length yc, .slice zA M.cr.length zc, .slice tA M.lp.length tc, .slice uA M.dr.length uc], .int .i64 os.length, .int .i64 0]) (by simp [results, Try.results14, go_sem, n0', n1', n2', n3', n4', n5', n6']) rfl ?_
        refine ⟨_, _, _, _, _, by rw [HRES.out], ?_, HZ.out⟩
        rw [HRES.out]
        exact OwM.hs HZ.out (HO.out.mono fun q qq => ⟨by have := qq.1; have := HZ1.out; omega, by rw [HE.out]; exact qq.2⟩)
end Go.Proofs.Ytgmppfhokfifgaa
