/-
  Contracts: StepMachine, of the program and of the reference. Printed by gen_sts.py.
-/
import Derived.Test.YtgmppfhokfifgaaGreatGmh
import Derived.Test.YtgmppfhokfifgaaGreatGcp
import Derived.Test.YtgmppfhokfifgaaGreatMsj
import Derived.Test.YtgmppfhokfifgaaGreatGmb
import Derived.Test.YtgmppfhokfifgaaGreatGvm
import Derived.Test.YtgmppfhokfifgaaGreatOps
import Derived.Test.YtgmppfhokfifgaaGreatPo3
namespace Go.Proofs.YtgmppfhokfifgaaGreat
set_option maxRecDepth 10000
open Go.RowKit

/-- What StepMachine returns. -/
def stR (m : Mac) (o : List Int) : Mac × Int := if okM m && opB o && fitB m.wd o then (if codeM m o = 0 then (stepM m o, 0) else (zeroM, codeM m o)) else (zeroM, 1)
theorem stR_bad {m : Mac} {o : List Int} (h : (okM m && opB o && fitB m.wd o) = false) : stR m o = (zeroM, 1) := by unfold stR; rw [h]; rfl
theorem stR_ok {m : Mac} {o : List Int} (h : (okM m && opB o && fitB m.wd o) = true) (hc : codeM m o = 0) : stR m o = (stepM m o, 0) := by unfold stR; rw [h, if_pos hc]; rfl
theorem stR_no {m : Mac} {o : List Int} (h : (okM m && opB o && fitB m.wd o) = true) (hc : codeM m o ≠ 0) : stR m o = (zeroM, codeM m o) := by unfold stR; rw [h, if_neg hc]; rfl
theorem fit_iff {n : Int} {o : List Int} : fitB n o = true ↔ gi o 3 < n ∧ gi o 5 < n := by simp [fitB]
theorem stR_impl {m : Mac} {o : List Int} (h1 : okM m = true) (h2 : opB o = true) : stR m o = if opC m o = 0 then (exeM m o, 0) else (zeroM, opC m o) := by
  cases hf : fitB m.wd o
  · have hn : ¬ (gi o 3 < m.wd ∧ gi o 5 < m.wd) := fun q => by rw [fit_iff.2 q] at hf; simp at hf
    rw [stR_bad (by rw [hf]; simp), opC_no hn, if_neg (by decide)]
  · obtain ⟨f1, f2⟩ := fit_iff.1 hf
    have ho : OpOk m o := ⟨h2, f1, f2⟩
    have hok := okM_iff.1 h1
    have hall : (okM m && opB o && fitB m.wd o) = true := by rw [h1, h2, hf]; rfl
    rw [opC_code hok ho, exeM_step hok ho]
    by_cases hc : codeM m o = 0
    · rw [if_pos hc, stR_ok hall hc]
    · rw [if_neg hc, stR_no hall hc]
theorem op8_box {w : World} {p : Nat} {o : List Int} (hx : w.heap[p]? = some (.cells #[.int .i64 (gi o 0), .int .i64 (gi o 1), .int .i64 (gi o 2), .int .i64 (gi o 3), .int .i64 (gi o 4), .int .i64 (gi o 5), .int .i64 (gi o 6), .int .i64 (gi o 7)] 38)) : w.cell? ⟨p, 0, none⟩ = some (.int .i64 (gi o 0)) ∧ w.cell? ⟨p, 1, none⟩ = some (.int .i64 (gi o 1)) ∧ w.cell? ⟨p, 2, none⟩ = some (.int .i64 (gi o 2)) ∧ w.cell? ⟨p, 3, none⟩ = some (.int .i64 (gi o 3)) ∧ w.cell? ⟨p, 4, none⟩ = some (.int .i64 (gi o 4)) ∧ w.cell? ⟨p, 5, none⟩ = some (.int .i64 (gi o 5)) ∧ w.cell? ⟨p, 6, none⟩ = some (.int .i64 (gi o 6)) ∧ w.cell? ⟨p, 7, none⟩ = some (.int .i64 (gi o 7)) :=
  ⟨cell_of_row w p 0 _ _ (0, 0) hx, cell_of_row w p 1 _ _ (0, 0) hx, cell_of_row w p 2 _ _ (0, 0) hx, cell_of_row w p 3 _ _ (0, 0) hx, cell_of_row w p 4 _ _ (0, 0) hx, cell_of_row w p 5 _ _ (0, 0) hx, cell_of_row w p 6 _ _ (0, 0) hx, cell_of_row w p 7 _ _ (0, 0) hx⟩
theorem OpL.at {w : World} {p q : Nat} {o : List Int} (h : OpL w p q o) : OpAt w p q (gi o 0) (gi o 1) (gi o 2) (gi o 3) (gi o 4) (gi o 5) (gi o 6) (gi o 7) := ⟨h.c0, h.c1, h.c2, h.c3, h.c4, h.c5, h.c6, h.c7⟩
/-- Three boxes that a call makes at its start. -/
theorem three_boxes (w : World) (a b c : Obj) : Below w.heap.size w (((w.alloc a).alloc b).alloc c) ∧ (((w.alloc a).alloc b).alloc c).heap.size = w.heap.size + 3 ∧ (((w.alloc a).alloc b).alloc c).heap[w.heap.size]? = some a ∧ (((w.alloc a).alloc b).alloc c).heap[w.heap.size + 1]? = some b ∧ (((w.alloc a).alloc b).alloc c).heap[w.heap.size + 2]? = some c := by
  have h1 := al1 w a
  have h2 := al1 (w.alloc a) b
  have h3 := al1 ((w.alloc a).alloc b) c
  refine ⟨h1.trans ((h2.mono (by simp)).trans (h3.mono (by simp; omega))), by simp, ?_, ?_, ?_⟩
  · exact keep_fwd h3 (keep_fwd h2 (alloc_at_ w a))
  · have := keep_fwd h3 (alloc_at_ (w.alloc a) b)
    simpa using this
  · have := alloc_at_ ((w.alloc a).alloc b) c
    simpa using this
set_option maxRecDepth 100000 in
set_option maxHeartbeats 12800000 in
theorem impl_StepMachine_any {w : World} {B : Nat} {f b c l d : Value} {m : Mac} {o : List Int} (h : SlM w B f b c l d m) (hB : B ≤ w.heap.size) :
    Calls Tryz.prog 6 #[.agg #[.int .i64 m.wd, .int .i64 m.rk, f, b, c, l, d], .agg #[.int .i64 (gi o 0), .int .i64 (gi o 1), .int .i64 (gi o 2), .int .i64 (gi o 3), .int .i64 (gi o 4), .int .i64 (gi o 5), .int .i64 (gi o 6), .int .i64 (gi o 7)]] w fun e w' => ∃ f' b' c' l' d', e = .returned (.tuple #[.agg #[.int .i64 (stR m o).1.wd, .int .i64 (stR m o).1.rk, f', b', c', l', d'], .int .i64 (stR m o).2]) ∧ Hs w' w.heap.size [mac_ f' b' c' l' d' (stR m o).1] ∧ Below w.heap.size w w' := by
  obtain ⟨⟨fA, fc, rfl⟩, ⟨bA, bc, rfl⟩, ⟨kA, kc, rfl⟩, ⟨lA, lc, rfl⟩, ⟨dA, dc, rfl⟩⟩ := h.forms
  obtain ⟨a1, a2, a3, a4, a5⟩ := three_boxes w (.cells #[.int .i64 m.wd, .int .i64 m.rk, .slice fA m.fr.length fc, .slice bA m.bk.length bc, .slice kA m.cr.length kc, .slice lA m.lp.length lc, .slice dA m.dr.length dc] 31) (.cells #[.int .i64 (gi o 0), .int .i64 (gi o 1), .int .i64 (gi o 2), .int .i64 (gi o 3), .int .i64 (gi o 4), .int .i64 (gi o 5), .int .i64 (gi o 6), .int .i64 (gi o 7)] 38) (.cells #[.int .i64 0, .int .i64 0, .slice none 0 0, .slice none 0 0, .slice none 0 0, .slice none 0 0, .slice none 0 0] 31)
  have HB1 := Lib.hid a1
  have HZ1 := Lib.hid a2
  have HX0 := Lib.hid a3
  have HX1 := Lib.hid a4
  have HX2 := Lib.hid a5
  have HH := Lib.hid h
  clear a1 a2 a3 a4 a5 h
  have HV := Lib.hid (ValidMachine_any (HH.out.below HB1.out hB) (by have := HZ1.out; omega))
  have HO : Hid (∀ W : World, Calls Tryz.prog 16 #[.agg #[.int .i64 (gi o 0), .int .i64 (gi o 1), .int .i64 (gi o 2), .int .i64 (gi o 3), .int .i64 (gi o 4), .int .i64 (gi o 5), .int .i64 (gi o 6), .int .i64 (gi o 7)]] W fun e w' => e = .returned (.bool (opB o)) ∧ Below W.heap.size W w') := Lib.hid fun W => impl_ValidOp_any _ _ _ _ _ _ _ _ W
  cases hk : okM m
  · have HST := Lib.hid (stR_bad (m := m) (o := o) (by rw [hk]; rfl))
    rw [hk] at HV
    clear hk HO HX0 HX1
    go_enter Tryz.func6, Tryz.ntmps6
    go_wp2_with fail
    refine HV.out.mono ?_
    rintro e w2 ⟨rfl, hq⟩
    have HQ := Lib.hid hq
    have HB2 := Lib.hid (HB1.out.trans (hq.mono HB1.out.size))
    clear hq HV
    have hxr := keep_fwd HQ.out HX2.out
    obtain ⟨⟨v0, v1, v2, v3, v4, v5, v6⟩, tf, -⟩ := box7 hxr
    have tf0 := tf 0
    have tf1 := tf 1
    have tf2 := tf 2
    have tf3 := tf 3
    have tf4 := tf 4
    have tf5 := tf 5
    have tf6 := tf 6
    obtain ⟨y1, y2, y3⟩ := Hs.lay (w0 := w) (lo := w2.heap.size) (m := zeroM) HB2.out (hs_zeroM w2) (heap_lt hxr) hxr (by omega)
    have HN := Lib.hid (box7 y1).1
    have H2 := Lib.hid y2
    have H3 := Lib.hid y3
    clear y1 y2 y3 hxr tf
    go_wp2_with fail
    obtain ⟨n0', n1', n2', n3', n4', n5', n6'⟩ := HN.out
    simp only [zeroM] at n0' n1' n2' n3' n4' n5' n6'
    refine bodyPost_ret (v := .tuple #[.agg #[.int .i64 0, .int .i64 0, .slice none 0 0, .slice none 0 0, .slice none 0 0, .slice none 0 0, .slice none 0 0], .int .i64 (1)]) (by simp [results, Tryz.results6, go_sem, n0', n1', n2', n3', n4', n5', n6']) rfl ?_
    rw [HST.out]
    exact ⟨_, _, _, _, _, rfl, H2.out, H3.out⟩
  · rw [hk] at HV
    have HK := Lib.hid (okM_iff.1 hk)
    cases ho : opB o
    · have HST := Lib.hid (stR_bad (m := m) (o := o) (by rw [ho]; simp))
      rw [ho] at HO
      clear hk ho
      go_enter Tryz.func6, Tryz.ntmps6
      go_wp2_with fail
      refine HV.out.mono ?_
      rintro e w2 ⟨rfl, hq⟩
      have HQ := Lib.hid hq
      have HB2 := Lib.hid (HB1.out.trans (hq.mono HB1.out.size))
      clear hq HV
      have hx0 := keep_fwd HQ.out HX0.out
      have hx1 := keep_fwd HQ.out HX1.out
      obtain ⟨⟨u0, u1, u2, u3, u4, u5, u6⟩, -, hl0⟩ := box7 hx0
      obtain ⟨p0, p1, p2, p3, p4, p5, p6, p7⟩ := op8_box hx1
      have hl1 := heap_lt hx1
      clear hx0 hx1
      go_wp2_with fail
      refine (HO.out w2).mono ?_
      rintro e w3 ⟨rfl, hq⟩
      clear p0 p1 p2 p3 p4 p5 p6 p7 u0 u1 u2 u3 u4 u5 u6 hl0 hl1
      have HQ3 := Lib.hid (HQ.out.trans (hq.mono HQ.out.size))
      have HB3 := Lib.hid (HB2.out.trans (hq.mono HB2.out.size))
      clear hq HQ HB2
      have hxr := keep_fwd HQ3.out HX2.out
      obtain ⟨⟨v0, v1, v2, v3, v4, v5, v6⟩, tf, -⟩ := box7 hxr
      have tf0 := tf 0
      have tf1 := tf 1
      have tf2 := tf 2
      have tf3 := tf 3
      have tf4 := tf 4
      have tf5 := tf 5
      have tf6 := tf 6
      obtain ⟨y1, y2, y3⟩ := Hs.lay (w0 := w) (lo := w3.heap.size) (m := zeroM) HB3.out (hs_zeroM w3) (heap_lt hxr) hxr (by omega)
      have HN := Lib.hid (box7 y1).1
      have H2 := Lib.hid y2
      have H3 := Lib.hid y3
      clear y1 y2 y3 hxr tf
      go_wp2_with fail
      obtain ⟨n0', n1', n2', n3', n4', n5', n6'⟩ := HN.out
      simp only [zeroM] at n0' n1' n2' n3' n4' n5' n6'
      refine bodyPost_ret (v := .tuple #[.agg #[.int .i64 0, .int .i64 0, .slice none 0 0, .slice none 0 0, .slice none 0 0, .slice none 0 0, .slice none 0 0], .int .i64 (1)]) (by simp [results, Tryz.results6, go_sem, n0', n1', n2', n3', n4', n5', n6']) rfl ?_
      rw [HST.out]
      exact ⟨_, _, _, _, _, rfl, H2.out, H3.out⟩
    · have HOP := Lib.hid ho
      have HST := Lib.hid (stR_impl hk ho)
      rw [ho] at HO
      clear hk ho
      go_enter Tryz.func6, Tryz.ntmps6
      go_wp2_with fail
      refine HV.out.mono ?_
      rintro e w2 ⟨rfl, hq⟩
      have HQ := Lib.hid hq
      have HB2 := Lib.hid (HB1.out.trans (hq.mono HB1.out.size))
      clear hq HV
      have hx0 := keep_fwd HQ.out HX0.out
      have hx1 := keep_fwd HQ.out HX1.out
      obtain ⟨⟨u0, u1, u2, u3, u4, u5, u6⟩, -, hl0⟩ := box7 hx0
      obtain ⟨p0, p1, p2, p3, p4, p5, p6, p7⟩ := op8_box hx1
      have hl1 := heap_lt hx1
      clear hx0 hx1
      go_wp2_with fail
      refine (HO.out w2).mono ?_
      rintro e w3 ⟨rfl, hq⟩
      clear p0 p1 p2 p3 p4 p5 p6 p7 u0 u1 u2 u3 u4 u5 u6 hl0 hl1
      have HQ3 := Lib.hid (HQ.out.trans (hq.mono HQ.out.size))
      have HB3 := Lib.hid (HB2.out.trans (hq.mono HB2.out.size))
      clear hq HQ HB2 HO
      have hx0 := keep_fwd HQ3.out HX0.out
      have hx1 := keep_fwd HQ3.out HX1.out
      obtain ⟨⟨u0, u1, u2, u3, u4, u5, u6⟩, -, hl0⟩ := box7 hx0
      obtain ⟨p0, p1, p2, p3, p4, p5, p6, p7⟩ := op8_box hx1
      have hl1 := heap_lt hx1
      clear hx0 hx1
      go_wp2_with fail
      refine (copyMachine_any (HH.out.below HB3.out hB) (Nat.le_trans hB HB3.out.size) HK.out).mono ?_
      rintro e w4 ⟨f, b, c, l, d, rfl, hm4, hb4⟩
      clear p0 p1 p2 p3 p4 p5 p6 p7 u0 u1 u2 u3 u4 u5 u6 hl0 hl1
      obtain ⟨⟨fA3, fc3, rfl⟩, ⟨bA3, bc3, rfl⟩, ⟨kA3, kc3, rfl⟩, ⟨lA3, lc3, rfl⟩, ⟨dA3, dc3, rfl⟩⟩ := (hm4.sl fun k q => q.2).forms
      have hz3 := HQ3.out.size
      have hz1 := HZ1.out
      have hz4 := hb4.size
      have hbx := hm4.box fun k q => q.2
      have hS3 : ∀ j, ((w3.heap.size ≤ j ∧ j < w4.heap.size) ∨ j = w4.heap.size) → j < (w4.alloc (.cells #[.int .i64 m.wd, .int .i64 m.rk, .slice fA3 m.fr.length fc3, .slice bA3 m.bk.length bc3, .slice kA3 m.cr.length kc3, .slice lA3 m.lp.length lc3, .slice dA3 m.dr.length dc3] 31)).heap.size := fun j q => by
        rw [World.size_alloc]
        rcases q with q | q <;> omega
      have b5 : Below w3.heap.size w3 (w4.alloc (.cells #[.int .i64 m.wd, .int .i64 m.rk, .slice fA3 m.fr.length fc3, .slice bA3 m.bk.length bc3, .slice kA3 m.cr.length kc3, .slice lA3 m.lp.length lc3, .slice dA3 m.dr.length dc3] 31)) := hb4.trans ((al1 w4 _).mono hz4)
      have HEX := Lib.hid (execute_any hbx hS3 HK.out HOP.out)
      have HQ5 := Lib.hid (HQ3.out.trans (b5.mono HQ3.out.size))
      have HB5 := Lib.hid (HB3.out.trans (b5.mono HB3.out.size))
      have HS3 := Lib.hid hS3
      have HZ4 : Hid (w.heap.size + 3 ≤ w3.heap.size ∧ w3.heap.size ≤ w4.heap.size) := Lib.hid ⟨by omega, hz4⟩
      clear hm4 hb4 hbx hS3 b5
      have hx0 := keep_fwd HQ5.out HX0.out
      have hx1 := keep_fwd HQ5.out HX1.out
      obtain ⟨⟨u0, u1, u2, u3, u4, u5, u6⟩, -, hl0⟩ := box7 hx0
      obtain ⟨p0, p1, p2, p3, p4, p5, p6, p7⟩ := op8_box hx1
      have hl1 := heap_lt hx1
      clear hx0 hx1
      clear hz3 hz1 hz4
      unfold op8 at HEX
      go_wp2_with fail
      refine HEX.out.mono ?_
      rintro e w6 ⟨rfl, hx6, hc6⟩
      clear p0 p1 p2 p3 p4 p5 p6 p7 u0 u1 u2 u3 u4 u5 u6 hl0 hl1
      have hz6 := hc6.size
      simp only [World.size_alloc] at hz6
      have HQ6 := Lib.hid (hc6.block (w.heap.size + 2) (by have := HZ4.out; simp only [World.size_alloc]; omega) (fun q => by have := HZ4.out; rcases q with q | q <;> omega))
      have HR6 := Lib.hid (HQ6.out.trans (keep_fwd HQ5.out HX2.out))
      have HB6 := Lib.hid (show Below w.heap.size w w6 from by
        have h5 := HB5.out
        exact h5.trans ⟨hc6.os, hc6.tape, hc6.output, hc6.size, fun j hj => hc6.block j (by have := h5.size; omega) (fun q => by have := HZ4.out; rcases q with q | q <;> omega)⟩)
      have HX6 := Lib.hid hx6
      have HLT : Hid (∀ q, Now (fun k => (w3.heap.size ≤ k ∧ k < w4.heap.size) ∨ k = w4.heap.size) (w4.alloc (.cells #[.int .i64 m.wd, .int .i64 m.rk, .slice fA3 m.fr.length fc3, .slice bA3 m.bk.length bc3, .slice kA3 m.cr.length kc3, .slice lA3 m.lp.length lc3, .slice dA3 m.dr.length dc3] 31)) w6 q → w3.heap.size ≤ q ∧ q < w6.heap.size) := Lib.hid fun q qq => by
        have := HZ4.out
        rcases qq with (qq | qq) | qq
        · omega
        · omega
        · have h1 := qq.1
          simp only [World.size_alloc] at h1
          exact ⟨by omega, qq.2⟩
      clear hx6 hc6 HEX HQ6
      obtain ⟨cd, hcd⟩ : ∃ cd, cd = opC m o := ⟨_, rfl⟩
      have HCD := Lib.hid hcd
      rw [← hcd] at HX6 ⊢
      by_cases hcz : cd = 0
      · have HST2 : Hid (stR m o = (exeM m o, 0)) := Lib.hid (by rw [HST.out, ← HCD.out, if_pos hcz])
        rw [if_pos hcz] at HX6
        clear hcd
        subst hcz
        obtain ⟨M, hM⟩ : ∃ M, M = exeM m o := ⟨_, rfl⟩
        rw [← hM] at HX6 HST2
        have HM := Lib.hid hM
        clear hM
        have HLTW : Hid (∀ q, Now (fun k => (w3.heap.size ≤ k ∧ k < w4.heap.size) ∨ k = w4.heap.size) (w4.alloc (.cells #[.int .i64 m.wd, .int .i64 m.rk, .slice fA3 m.fr.length fc3, .slice bA3 m.bk.length bc3, .slice kA3 m.cr.length kc3, .slice lA3 m.lp.length lc3, .slice dA3 m.dr.length dc3] 31)) w6 q → w.heap.size ≤ q ∧ q < w6.heap.size) := Lib.hid fun q qq => ⟨by have := (HLT.out q qq).1; have := HZ4.out; omega, (HLT.out q qq).2⟩
        have hxr := HR6.out
        obtain ⟨f, b, c, l, d, e1, e2, e3, e4, e5⟩ := HX6.out.out (r := w.heap.size + 2) (fun q => by have := (HLT.out _ q).1; have := HZ4.out; omega) hxr
        obtain ⟨⟨xA, xc, rfl⟩, ⟨yA, yc, rfl⟩, ⟨zA, zc, rfl⟩, ⟨tA, tc, rfl⟩, ⟨vA, vc, rfl⟩⟩ := (e3.sl (B := w6.heap.size) (fun q qq => (HLTW.out q qq).2)).forms
        obtain ⟨⟨s0, s1, s2, s3, s4, s5, s6⟩, -, -⟩ := box7 e1
        obtain ⟨⟨v0, v1, v2, v3, v4, v5, v6⟩, tf, -⟩ := box7 hxr
        have tf0 := tf 0
        have tf1 := tf 1
        have tf2 := tf 2
        have tf3 := tf 3
        have tf4 := tf 4
        have tf5 := tf 5
        have tf6 := tf 6
        have HN := Lib.hid (box7 e2).1
        have HO := Lib.hid e3
        have HE := Lib.hid e4
        have HZ := Lib.hid (HB6.out.trans (e5.mono (by omega)))
        clear hxr e1 e2 e3 e4 e5 tf
        go_wp2_with fail
        obtain ⟨n0', n1', n2', n3', n4', n5', n6'⟩ := HN.out
        refine bodyPost_ret (v := .tuple #[.agg #[.int .i64 M.wd, .int .i64 M.rk, .slice xA M.fr.length xc, .slice yA M.bk.length yc, .slice zA M.cr.length zc, .slice tA M.lp.length tc, .slice vA M.dr.length vc], .int .i64 (0)]) (by simp [results, Tryz.results6, go_sem, n0', n1', n2', n3', n4', n5', n6']) rfl ?_
        rw [HST2.out]
        refine ⟨_, _, _, _, _, rfl, ?_, HZ.out⟩
        exact OwM.hs HZ.out (HO.out.mono fun q qq => ⟨(HLTW.out q qq).1, by rw [HE.out]; exact (HLTW.out q qq).2⟩)
      · have HST2 : Hid (stR m o = (zeroM, cd)) := Lib.hid (by rw [HST.out, ← HCD.out, if_neg hcz])
        clear hcd HX6
        have hxr := HR6.out
        obtain ⟨⟨v0, v1, v2, v3, v4, v5, v6⟩, tf, -⟩ := box7 hxr
        have tf0 := tf 0
        have tf1 := tf 1
        have tf2 := tf 2
        have tf3 := tf 3
        have tf4 := tf 4
        have tf5 := tf 5
        have tf6 := tf 6
        obtain ⟨y1, y2, y3⟩ := Hs.lay (w0 := w) (lo := w6.heap.size) (m := zeroM) HB6.out (hs_zeroM w6) (heap_lt hxr) hxr (by omega)
        have HN := Lib.hid (box7 y1).1
        have H2 := Lib.hid y2
        have H3 := Lib.hid y3
        clear y1 y2 y3 hxr tf
        go_upto_if 30 with fail
        rw [show (cd != 0) = true from by simpa using hcz]
        go_wp2_with fail
        obtain ⟨n0', n1', n2', n3', n4', n5', n6'⟩ := HN.out
        simp only [zeroM] at n0' n1' n2' n3' n4' n5' n6'
        refine bodyPost_ret (v := .tuple #[.agg #[.int .i64 0, .int .i64 0, .slice none 0 0, .slice none 0 0, .slice none 0 0, .slice none 0 0, .slice none 0 0], .int .i64 (cd)]) (by simp [results, Tryz.results6, go_sem, n0', n1', n2', n3', n4', n5', n6']) rfl ?_
        rw [HST2.out]
        exact ⟨_, _, _, _, _, rfl, H2.out, H3.out⟩
end Go.Proofs.YtgmppfhokfifgaaGreat
