/-
  Plain laws of runs of operations (runL), and a machine laid into a new box.
-/
import Derived.Test.YtgmppfhokfifgaaGreatDoorGpo
import Derived.Test.YtgmppfhokfifgaaGreatDoorGmg
import Derived.Test.YtgmppfhokfifgaaGreatDoorGma
import Derived.Test.YtgmppfhokfifgaaGreatDoorExe
import Derived.Test.YtgmppfhokfifgaaGreatDoorMsj
import Derived.Test.YtgmppfhokfifgaaGreatDoorPo3
import Derived.Test.YtgmppfhokfifgaaGreatDoorGmb
namespace Go.Proofs.YtgmppfhokfifgaaGreatDoor
set_option maxRecDepth 10000
open Go.RowKit

def runL : Mac → Nat → List (List Int) → Mac × Int × Int
  | m, i, [] => (m, (i : Int), 0)
  | m, i, o :: os => if codeM m o = 0 then runL (stepM m o) (i + 1) os else (m, (i : Int), codeM m o)
theorem drop_glR {os : List (List Int)} {k : Nat} (hk : k < os.length) : os.drop k = gl os k :: os.drop (k + 1) := by
  rw [List.drop_eq_getElem_cons hk, gl_eq hk]
theorem runL_go {m : Mac} {os : List (List Int)} {k : Nat} (hk : k < os.length) (h : codeM m (gl os k) = 0) : runL m k (os.drop k) = runL (stepM m (gl os k)) (k + 1) (os.drop (k + 1)) := by
  rw [drop_glR hk, runL, if_pos h]
theorem runL_stop {m : Mac} {os : List (List Int)} {k : Nat} (hk : k < os.length) (h : codeM m (gl os k) ≠ 0) : runL m k (os.drop k) = (m, (k : Int), codeM m (gl os k)) := by
  rw [drop_glR hk, runL, if_neg h]
theorem runL_end {m : Mac} {os : List (List Int)} : runL m os.length (os.drop os.length) = (m, (os.length : Int), 0) := by
  rw [List.drop_length]; rfl
theorem newM_ok {n : Int} (h0 : 1 ≤ n) (h1 : n ≤ 24) : OkM (newM n) := by
  have hf : ∀ k : Nat, (List.replicate k ([] : List Int)).flatten = [] := fun k => by simp
  refine ⟨⟨h0, h1⟩, by simp [newM], by simp [newM]; omega, by simp [newM]; omega, by simp [newM], by simp [newM], fun c hc => ?_, fun k hk => absurd hk (by simp [newM]), fun xs hx => ?_, fun xs hx => ?_, by simp [newM], fun x hx => ?_, ?_⟩
  · have : c = (false, 0) := by simp [newM] at hc; exact hc
    subst this
    have e : (0 : Int) ≤ n + 3 := by omega
    simp [crOk, inR, newM, e]
  · have := (List.mem_replicate.1 hx).2; subst this; simp
  · have := (List.mem_replicate.1 hx).2; subst this; simp
  · simp [allM, newM] at hx
  · simp [allM, newM]
theorem stepM_wd (m : Mac) (o : List Int) : (stepM m o).wd = m.wd := by
  unfold stepM
  split
  · rw [(put_parts _ _ _ _).1]; rfl
  · split
    · rw [(put_parts _ _ _ _).1]; rfl
    · split
      · rw [(put_parts _ _ _ _).1]
        show ((m.carried o).moved o).wd = m.wd
        rw [(moved_parts _ _).2.2.1]; rfl
      · split
        · rfl
        · split
          · rw [(moved_parts _ _).2.2.1]
          · split
            · rw [(put_parts _ _ _ _).1]
            · split
              · rfl
              · split <;> rfl
theorem okOps_facts {n : Int} {os : List (List Int)} (h : okOps n os = true) : (1 ≤ n ∧ n ≤ 24) ∧ os.length ≤ 1500 ∧ ∀ k, k < os.length → opB (gl os k) = true ∧ gi (gl os k) 3 < n ∧ gi (gl os k) 5 < n := by
  simp only [okOps, Bool.and_eq_true, inR_iff, decide_eq_true_eq, List.all_eq_true, fitB] at h
  exact ⟨h.1.1, h.1.2, fun k hk => ⟨(h.2 _ (gl_mem hk)).1, (h.2 _ (gl_mem hk)).2⟩⟩
/-- A machine laid into a new box. -/
theorem OwM.box {w : World} {S : Nat → Prop} {f b c l d : Value} {m : Mac} (h : OwM w S f b c l d m) (hS : ∀ k, S k → k < w.heap.size) :
    OwBox (w.alloc (.cells #[.int .i64 m.wd, .int .i64 m.rk, f, b, c, l, d] 75)) (fun k => S k ∨ k = w.heap.size) w.heap.size m := by
  classical
  obtain ⟨tag, h⟩ := h
  have hk : ∀ k, S k → (w.alloc (.cells #[.int .i64 m.wd, .int .i64 m.rk, f, b, c, l, d] 75)).heap[k]? = w.heap[k]? := fun k q => Below.heap_alloc _ _ _ (hS k q)
  have h2 := h.keep hk
  have hm : ∀ t k, S k ∧ tag k = t → (S k ∨ k = w.heap.size) ∧ (if k = w.heap.size then 5 else tag k) = t := fun t k q => ⟨.inl q.1, by rw [if_neg (by have := hS k q.1; omega)]; exact q.2⟩
  exact ⟨f, b, c, l, d, fun k => if k = w.heap.size then 5 else tag k, .inr rfl, if_pos rfl, alloc_at_ w _, h2.fr.mono (hm 0), h2.bk.mono (hm 1), h2.cr.mono (hm 2), h2.lp.mono (hm 3), rw_mono h2.dr (hm 4)⟩
end Go.Proofs.YtgmppfhokfifgaaGreatDoor
/-
  Contract: the program's run. Printed by gen_run.py.
-/
namespace Go.Proofs.YtgmppfhokfifgaaGreatDoor
set_option maxRecDepth 10000
open Go.RowKit

/-- The forms of a machine's parts. -/
theorem SlM.forms {w : World} {B : Nat} {f b c l d : Value} {m : Mac} (h : SlM w B f b c l d m) : (∃ A k, f = .slice A m.fr.length k) ∧ (∃ A k, b = .slice A m.bk.length k) ∧ (∃ A k, c = .slice A m.cr.length k) ∧ (∃ A k, l = .slice A m.lp.length k) ∧ (∃ A k, d = .slice A m.dr.length k) := by
  obtain ⟨a1, k1, e1, -⟩ := h.fr
  obtain ⟨a2, k2, e2, -⟩ := h.bk
  obtain ⟨a3, k3, e3, -⟩ := h.cr
  obtain ⟨a4, k4, e4, -⟩ := h.lp
  obtain ⟨a5, k5, e5, -⟩ := h.dr
  exact ⟨⟨a1, k1, e1⟩, ⟨a2, k2, e2⟩, ⟨a3, k3, e3⟩, ⟨a4, k4, e4⟩, ⟨a5, k5, e5⟩⟩
set_option maxRecDepth 100000 in
set_option maxHeartbeats 6400000 in
theorem run_any {n : Int} {v : Value} {os : List (List Int)} {B : Nat} {w : World} (h : SlR 8 w B v os) (hok : okOps n os = true) :
    Calls Tryz.prog 36 #[.int .i64 n, v] w fun e w' => ∃ f b c l d, e = .returned (.tuple #[.agg #[.int .i64 (runL (newM n) 0 os).1.wd, .int .i64 (runL (newM n) 0 os).1.rk, f, b, c, l, d], .int .i64 (runL (newM n) 0 os).2.1, .int .i64 (runL (newM n) 0 os).2.2]) ∧ Hs w' w.heap.size [mac_ f b c l d (runL (newM n) 0 os).1] ∧ Below w.heap.size w w' := by
  obtain ⟨⟨n0, n1⟩, hol, hops⟩ := okOps_facts hok
  obtain ⟨A, cA, rfl, -⟩ := id h
  have HR0 := Lib.hid h
  have HOPS := Lib.hid hops
  obtain ⟨R, hR⟩ : ∃ R, R = runL (newM n) 0 os := ⟨_, rfl⟩
  rw [← hR]
  have HR := Lib.hid hR
  have HNM := Lib.hid (newM_ok n0 n1)
  clear h hok hops hR
  go_enter Tryz.func36, Tryz.ntmps36
  go_wp2_with fail
  generalize hw1 : w.alloc _ = w1
  have hb1 : Below w.heap.size w w1 := by rw [← hw1]; exact al1 w _
  have hz1 : w1.heap.size = w.heap.size + 1 := by rw [← hw1]; simp
  have HRB := Lib.hid (show w1.heap[w.heap.size]? = some (.cells #[.int .i64 0, .int .i64 0, .slice none 0 0, .slice none 0 0, .slice none 0 0, .slice none 0 0, .slice none 0 0] 75) from by rw [← hw1]; exact alloc_at_ w _)
  have HB1 := Lib.hid hb1
  have HZ1 := Lib.hid hz1
  clear hw1 hb1 hz1
  refine (newMachine_any n w1 n0 n1).mono ?_
  rintro e w2 ⟨f, b, c, l, d, rfl, hs2, hb2⟩
  obtain ⟨Sm, hmac0, hSm, -⟩ := hs2.at_ [] _ []
  have hmac : OwM w2 Sm f b c l d (newM n) := hmac0
  clear hmac0
  obtain ⟨⟨fA, fc, rfl⟩, ⟨bA, bc, rfl⟩, ⟨kA, kc, rfl⟩, ⟨lA, lc, rfl⟩, ⟨dA, dc, rfl⟩⟩ := (hmac.sl fun k q => (hSm k q).2).forms
  have hbx := hmac.box fun k q => (hSm k q).2
  have HBX := Lib.hid hbx
  have HSM := Lib.hid hSm
  have HB2 := Lib.hid hb2
  have hg2 := hb2.size
  clear hs2 hmac hbx hSm hb2
  obtain ⟨g, hg⟩ : ∃ g, g = w2.heap.size := ⟨_, rfl⟩
  have HG := Lib.hid hg
  clear hg
  go_wp2_with fail
  go_loopw [15] (fun i wr => ∃ (k : Nat) (M : Mac), k ≤ os.length ∧ i = .int .i64 k ∧ OkM M ∧ M.wd = n ∧ R = runL M k (os.drop k) ∧ OwBox wr (fun j => w1.heap.size ≤ j ∧ j < wr.heap.size) w2.heap.size M ∧ Below w1.heap.size w1 wr) (fun i _ => os.length - (intOf i).toNat)
  case atStart =>
    refine ⟨0, newM n, Nat.zero_le _, rfl, HNM.out, rfl, HR.out, HBX.out.mono fun j q => ?_, HB2.out.trans ((al1 w2 _).mono hg2)⟩
    rcases q with q | q
    · have := HSM.out j q
      exact ⟨this.1, by simp; omega⟩
    · subst q
      exact ⟨hg2, by simp⟩
  case round =>
    obtain ⟨k, M, hk, rfl, hokM, hwM, hrun, hx, hb⟩ := hrel
    clear HBX HSM HNM HR
    have hz := hb.size
    have HB := Lib.hid hb
    have HBW := Lib.hid (HB1.out.trans (hb.mono HB1.out.size))
    have HOKM := Lib.hid hokM
    have HWM := Lib.hid hwM
    have HRUN := Lib.hid hrun
    have hwl : w.heap.size < wr.heap.size := by have := HZ1.out; omega
    clear hb hokM hwM hrun
    by_cases hlt : k < os.length
    · have hltI : (k : Int) < (os.length : Int) := by omega
      obtain ⟨pb, po, rfl⟩ := HR0.out.addr (by omega)
      obtain ⟨-, hpl, q0, q1, q2, q3, q4, q5, q6, q7⟩ := HR0.out.opAt hlt
      have HQ := Lib.hid (And.intro q0 (And.intro q1 (And.intro q2 (And.intro q3 (And.intro q4 (And.intro q5 (And.intro q6 q7)))))))
      clear q0 q1 q2 q3 q4 q5 q6 q7
      have up : ∀ {p : Addr} {x : Value}, p.block < w.heap.size → w.cell? p = some x → wr.cell? p = some x := fun hp hq => (HBW.out.cell hp).trans hq
      obtain ⟨r0, r1, r2, r3, r4, r5, r6, r7⟩ := HQ.out
      have q0 := up hpl r0
      have q1 := up hpl r1
      have q2 := up hpl r2
      have q3 := up hpl r3
      have q4 := up hpl r4
      have q5 := up hpl r5
      have q6 := up hpl r6
      have q7 := up hpl r7
      clear r0 r1 r2 r3 r4 r5 r6 r7 up
      obtain ⟨ho1, ho2, ho3⟩ := HOPS.out k hlt
      have hop : OpOk M (gl os k) := ⟨ho1, by rw [HWM.out]; exact ho2, by rw [HWM.out]; exact ho3⟩
      obtain ⟨cd, hcd⟩ : ∃ cd, cd = codeM M (gl os k) := ⟨_, rfl⟩
      have hOP := opC_code HOKM.out hop
      have hEX := execute_any (w := wr.alloc (opObj (gl os k))) (S := (fun j => w1.heap.size ≤ j ∧ j < wr.heap.size)) (o := gl os k) (hx.below (fun j q => q.2) (al1 wr _)) (fun j q => by have := q.2; simp; omega) HOKM.out ho1
      rw [hOP, ← hcd, exeM_step HOKM.out hop] at hEX
      unfold op8 opObj at hEX
      have HEX := Lib.hid hEX
      have HCD := Lib.hid hcd
      have HOP := Lib.hid hop
      have HB5 := Lib.hid (HB.out.trans ((al1 wr (opObj (gl os k))).mono hz))
      clear hEX hcd hop hOP hx ho1 ho2 ho3
      go_wp2_with fail
      refine HEX.out.mono ?_
      rintro e w6 ⟨rfl, hx6a, hc6⟩
      have hz6 := hc6.size
      simp only [World.size_alloc] at hz6
      have hx6 : OwBox w6 (fun j => w1.heap.size ≤ j ∧ j < w6.heap.size) w2.heap.size (if cd = 0 then stepM M (gl os k) else M) := hx6a.mono fun j q => by
        rcases q with q | q
        · exact ⟨q.1, by have := q.2; omega⟩
        · have q1 := q.1
          simp only [World.size_alloc] at q1
          exact ⟨by omega, q.2⟩
      have hb6 : Below w1.heap.size w1 w6 := by
        have h5 := HB5.out
        exact h5.trans ⟨hc6.os, hc6.tape, hc6.output, hc6.size, fun j hj => hc6.block j (by have := h5.size; simp only [World.size_alloc] at this ⊢; omega) (fun q => by have := q.1; omega)⟩
      have HB6 := Lib.hid hb6
      have HBW6 := Lib.hid (HB1.out.trans (hb6.mono HB1.out.size))
      have HX6 := Lib.hid hx6
      clear hx6 hx6a hb6 hc6 q0 q1 q2 q3 q4 q5 q6 q7 HEX
      by_cases hcz : cd = 0
      · subst hcz
        go_wp2_with fail
        go_roundw
        case rel =>
          refine ⟨k + 1, stepM M (gl os k), by omega, by go_num, stepM_ok HOKM.out HOP.out HCD.out.symm, by rw [stepM_wd]; exact HWM.out, by rw [HRUN.out, runL_go hlt HCD.out.symm], ?_, HB6.out⟩
          have := HX6.out
          simpa using this
        case measure => simp [intOf]; omega
      · have hx6 : OwBox w6 (fun j => w1.heap.size ≤ j ∧ j < w6.heap.size) w2.heap.size M := by have := HX6.out; rwa [if_neg hcz] at this
        have HRES : Hid (R = (M, (k : Int), cd)) := Lib.hid (by rw [HRUN.out, runL_stop hlt (by rw [← HCD.out]; exact hcz), HCD.out])
        have hxr := (HB6.out.block w.heap.size (by have := HZ1.out; omega)).trans HRB.out
        obtain ⟨f, b, c, l, d, e1, e2, e3, e4, e5⟩ := hx6.out (r := w.heap.size) (fun q => by have := q.1; have := HZ1.out; omega) hxr
        obtain ⟨⟨xA, xc, rfl⟩, ⟨yA, yc, rfl⟩, ⟨zA, zc, rfl⟩, ⟨tA, tc, rfl⟩, ⟨uA, uc, rfl⟩⟩ := (e3.sl (B := w6.heap.size) (fun q qq => qq.2)).forms
        obtain ⟨⟨u0, u1, u2, u3, u4, u5, u6⟩, -, -⟩ := box7 e1
        obtain ⟨⟨v0, v1, v2, v3, v4, v5, v6⟩, tf, -⟩ := box7 hxr
        have tf0 := tf 0
        have tf1 := tf 1
        have tf2 := tf 2
        have tf3 := tf 3
        have tf4 := tf 4
        have tf5 := tf 5
        have tf6 := tf 6
        have HN := Lib.hid (box7 e2).1
        have HO := Lib.hid e3
        have HE := Lib.hid e4
        have HZ := Lib.hid (HBW6.out.trans e5)
        clear hxr e1 e2 e3 e4 e5 tf
        clear hx6
        go_upto_if 23 with fail
        rw [show (cd != 0) = true from by simpa using hcz]
        go_wp2_with fail
        obtain ⟨n0', n1', n2', n3', n4', n5', n6'⟩ := HN.out
        refine bodyPost_ret (v := .tuple #[.agg #[.int .i64 M.wd, .int .i64 M.rk, .slice xA M.fr.length xc, .slice yA M.bk.length yc, .slice zA M.cr.length zc, .slice tA M.lp.length tc, .slice uA M.dr.length uc], .int .i64 k, .int .i64 cd]) (by simp [results, Tryz.results36, go_sem, n0', n1', n2', n3', n4', n5', n6']) rfl ?_
        refine ⟨_, _, _, _, _, by rw [HRES.out], ?_, HZ.out⟩
        rw [HRES.out]
        exact OwM.hs HZ.out (HO.out.mono fun q qq => ⟨by have := qq.1; have := HZ1.out; omega, by rw [HE.out]; exact qq.2⟩)
    · obtain rfl : k = os.length := by omega
      have HRES : Hid (R = (M, (os.length : Int), 0)) := Lib.hid (by rw [HRUN.out, runL_end])
      have hxr := (HB.out.block w.heap.size (by have := HZ1.out; omega)).trans HRB.out
      obtain ⟨f, b, c, l, d, e1, e2, e3, e4, e5⟩ := hx.out (r := w.heap.size) (fun q => by have := q.1; have := HZ1.out; omega) hxr
      obtain ⟨⟨xA, xc, rfl⟩, ⟨yA, yc, rfl⟩, ⟨zA, zc, rfl⟩, ⟨tA, tc, rfl⟩, ⟨uA, uc, rfl⟩⟩ := (e3.sl (B := wr.heap.size) (fun q qq => qq.2)).forms
      obtain ⟨⟨u0, u1, u2, u3, u4, u5, u6⟩, -, -⟩ := box7 e1
      obtain ⟨⟨v0, v1, v2, v3, v4, v5, v6⟩, tf, -⟩ := box7 hxr
      have tf0 := tf 0
      have tf1 := tf 1
      have tf2 := tf 2
      have tf3 := tf 3
      have tf4 := tf 4
      have tf5 := tf 5
      have tf6 := tf 6
      have HN := Lib.hid (box7 e2).1
      have HO := Lib.hid e3
      have HE := Lib.hid e4
      have HZ := Lib.hid (HBW.out.trans e5)
      clear hxr e1 e2 e3 e4 e5 tf
      clear hx
      go_wp2_with fail
      obtain ⟨n0', n1', n2', n3', n4', n5', n6'⟩ := HN.out
      refine bodyPost_ret (v := .tuple #[.agg #[.int .i64 M.wd, .int .i64 M.rk, .slice xA M.fr.length xc, .slice yA M.bk.length yc, .slice zA M.cr.length zc, .slice tA M.lp.length tc, .slice uA M.dr.length uc], .int .i64 os.length, .int .i64 0]) (by simp [results, Tryz.results36, go_sem, n0', n1', n2', n3', n4', n5', n6']) rfl ?_
      refine ⟨_, _, _, _, _, by rw [HRES.out], ?_, HZ.out⟩
      rw [HRES.out]
      exact OwM.hs HZ.out (HO.out.mono fun q qq => ⟨by have := qq.1; have := HZ1.out; omega, by rw [HE.out]; exact qq.2⟩)
end Go.Proofs.YtgmppfhokfifgaaGreatDoor
/-
  Contracts: the program's RunMachine, CheckProgram. Printed by gen_rmi.py.
-/
namespace Go.Proofs.YtgmppfhokfifgaaGreatDoor
set_option maxRecDepth 10000
open Go.RowKit

def rmR (n : Int) (os : List (List Int)) : Mac × Int × Int := if okOps n os then runL (newM n) 0 os else (zeroM, 0, 1)
theorem rmR_yes {n : Int} {os : List (List Int)} (h : okOps n os = true) : rmR n os = runL (newM n) 0 os := if_pos h
theorem rmR_no {n : Int} {os : List (List Int)} (h : okOps n os = false) : rmR n os = (zeroM, 0, 1) := by unfold rmR; rw [h]; rfl
set_option maxRecDepth 100000 in
set_option maxHeartbeats 6400000 in
theorem impl_CheckProgram_any {n : Int} {v : Value} {os : List (List Int)} {B : Nat} {w : World} (h : SlR 8 w B v os) (hB : B ≤ w.heap.size) :
    Calls Tryz.prog 18 #[.int .i64 n, v] w fun e w' => e = .returned (.tuple #[.int .i64 (rmR n os).2.1, .int .i64 (rmR n os).2.2]) ∧ Below w.heap.size w w' := by
  obtain ⟨A, cA, rfl, -⟩ := id h
  have HR := Lib.hid h
  have HV := Lib.hid (validFor_any n _ os B w h hB)
  clear h
  cases hk : okOps n os
  · rw [hk] at HV
    rw [rmR_no hk]
    clear hk
    go_enter Tryz.func18, Tryz.ntmps18
    go_wp2_with fail
    refine HV.out.mono ?_
    rintro e w2 ⟨rfl, hq⟩
    have HQ := Lib.hid hq
    clear hq
    go_wp2_with fail
    refine bodyPost_ret (v := .tuple #[.int .i64 0, .int .i64 1]) (by simp [results, Tryz.results18, go_sem]) rfl ?_
    exact ⟨rfl, HQ.out⟩
  · rw [hk] at HV
    have HK := Lib.hid hk
    rw [rmR_yes hk]
    clear hk
    obtain ⟨R, hR⟩ : ∃ R, R = runL (newM n) 0 os := ⟨_, rfl⟩
    have HRN := Lib.hid (fun (W : World) (q : Below w.heap.size w W) => run_any (w := W) (HR.out.below q hB) HK.out)
    rw [← hR] at HRN ⊢
    clear hR
    go_enter Tryz.func18, Tryz.ntmps18
    go_wp2_with fail
    refine HV.out.mono ?_
    rintro e w2 ⟨rfl, hq⟩
    have HQ := Lib.hid hq
    clear hq
    go_wp2_with fail
    refine (HRN.out w2 HQ.out).mono ?_
    rintro e w3 ⟨f, b, c, l, d, rfl, hs, hq3⟩
    obtain ⟨Sm, hm, hSm, -⟩ := hs.at_ [] _ []
    have hm : OwM w3 Sm f b c l d R.1 := hm
    obtain ⟨⟨xA, xc, rfl⟩, ⟨yA, yc, rfl⟩, ⟨zA, zc, rfl⟩, ⟨tA, tc, rfl⟩, ⟨uA, uc, rfl⟩⟩ := (hm.sl fun k q => (hSm k q).2).forms
    have H3 := Lib.hid ((HQ.out.trans (hq3.mono HQ.out.size)).trans ((al1 w3 (.cells #[.int .i64 R.1.wd, .int .i64 R.1.rk, .slice xA R.1.fr.length xc, .slice yA R.1.bk.length yc, .slice zA R.1.cr.length zc, .slice tA R.1.lp.length tc, .slice uA R.1.dr.length uc] 75)).mono (Nat.le_trans HQ.out.size hq3.size)))
    clear hm hSm hs hq3
    go_wp2_with fail
    refine bodyPost_ret (v := .tuple #[.int .i64 R.2.1, .int .i64 R.2.2]) (by simp [results, Tryz.results18, go_sem]) rfl ?_
    exact ⟨rfl, H3.out⟩
end Go.Proofs.YtgmppfhokfifgaaGreatDoor
/-
  Contracts: the reference's RunMachine, CheckProgram. Printed by gen_rms.py.
-/
namespace Go.Proofs.YtgmppfhokfifgaaGreatDoor
set_option maxRecDepth 10000
open Go.RowKit

/-- A machine of the call's own, and a box that holds it. -/
theorem OwM.into {w : World} {S : Nat → Prop} {f b c l d : Value} {m : Mac} {r : Nat} (h : OwM w S f b c l d m) (hr : ¬ S r) (hx : w.heap[r]? = some (.cells #[.int .i64 m.wd, .int .i64 m.rk, f, b, c, l, d] 75)) : OwBox w (fun k => S k ∨ k = r) r m := by
  classical
  obtain ⟨tag, h2⟩ := h
  have hm : ∀ t k, S k ∧ tag k = t → (S k ∨ k = r) ∧ (if k = r then 5 else tag k) = t := fun t k q => ⟨.inl q.1, by rw [if_neg (fun e : k = r => hr (by rw [← e]; exact q.1))]; exact q.2⟩
  exact ⟨f, b, c, l, d, fun k => if k = r then 5 else tag k, .inr rfl, if_pos rfl, hx, h2.fr.mono (hm 0), h2.bk.mono (hm 1), h2.cr.mono (hm 2), h2.lp.mono (hm 3), rw_mono h2.dr (hm 4)⟩
theorem OpL.of {w : World} {pb po : Nat} {o : List Int} (h0 : w.cell? ⟨pb, po, none⟩ = some (.int .i64 (gi o 0))) (h1 : w.cell? ⟨pb, po + 1, none⟩ = some (.int .i64 (gi o 1))) (h2 : w.cell? ⟨pb, po + 2, none⟩ = some (.int .i64 (gi o 2))) (h3 : w.cell? ⟨pb, po + 3, none⟩ = some (.int .i64 (gi o 3))) (h4 : w.cell? ⟨pb, po + 4, none⟩ = some (.int .i64 (gi o 4))) (h5 : w.cell? ⟨pb, po + 5, none⟩ = some (.int .i64 (gi o 5))) (h6 : w.cell? ⟨pb, po + 6, none⟩ = some (.int .i64 (gi o 6))) (h7 : w.cell? ⟨pb, po + 7, none⟩ = some (.int .i64 (gi o 7))) : OpL w pb po o := ⟨h0, h1, h2, h3, h4, h5, h6, h7⟩
end Go.Proofs.YtgmppfhokfifgaaGreatDoor
