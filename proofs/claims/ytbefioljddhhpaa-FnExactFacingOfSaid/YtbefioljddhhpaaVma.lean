/-
  Contracts: FacingOf of the program and of the reference. Printed by gen_vma.py.
-/
import Derived.Test.YtbefioljddhhpaaVm8
import Derived.Test.YtbefioljddhhpaaVm9
namespace Go.Proofs.Ytbefioljddhhpaa
set_option maxRecDepth 10000
open Go.RowKit

def faceOk (m : Mac) (b a : Int) : Bool := okM m && ndlB b a && decide (a < m.wd) && inR (faceP m b a) 0 (m.wd - 1)
def faceB (m : Mac) (b a : Int) : Int := if faceOk m b a then 3 - b else 0
def faceA (m : Mac) (b a : Int) : Int := if faceOk m b a then faceP m b a else 0
def faceV (m : Mac) (b a : Int) : Ending := .returned (.tuple #[.agg #[.int .i64 (faceB m b a), .int .i64 (faceA m b a)], .bool (faceOk m b a)])
theorem faceV_no {m : Mac} {b a : Int} (h : faceOk m b a = false) : faceV m b a = .returned (.tuple #[.agg #[.int .i64 0, .int .i64 0], .bool false]) := by simp [faceV, faceB, faceA, h]
theorem faceV_yes {m : Mac} {b a : Int} (h : faceOk m b a = true) : faceV m b a = .returned (.tuple #[.agg #[.int .i64 (3 - b), .int .i64 (faceP m b a)], .bool true]) := by simp [faceV, faceB, faceA, h]
theorem al3_at (w : World) (a b c : Obj) : (((w.alloc a).alloc b).alloc c).heap[w.heap.size]? = some a ∧ (((w.alloc a).alloc b).alloc c).heap[w.heap.size + 1]? = some b ∧ (((w.alloc a).alloc b).alloc c).heap[w.heap.size + 1 + 1]? = some c ∧ Below w.heap.size w (((w.alloc a).alloc b).alloc c) := by
  have e1 : (w.alloc a).heap.size = w.heap.size + 1 := World.size_alloc _ _
  have e2 : ((w.alloc a).alloc b).heap.size = w.heap.size + 1 + 1 := by rw [World.size_alloc, e1]
  refine ⟨?_, ?_, ?_, (al2 w a b).alloc (by omega) c⟩
  · exact (Below.heap_alloc _ _ _ (by omega)).trans ((Below.heap_alloc _ _ _ (by omega)).trans (alloc_at_ w a))
  · have := alloc_at_ (w.alloc a) b
    rw [e1] at this
    exact (Below.heap_alloc _ _ _ (by omega)).trans this
  · have := alloc_at_ ((w.alloc a).alloc b) c
    rw [e2] at this
    exact this
set_option maxRecDepth 100000 in
set_option maxHeartbeats 6400000 in
theorem impl_FacingOf_any {f b c l d : Value} {m : Mac} {nb na : Int} {B : Nat} {w : World} (h : SlM w B f b c l d m) (hB : B ≤ w.heap.size) :
    Calls Try.prog 27 #[.agg #[.int .i64 m.wd, .int .i64 m.rk, f, b, c, l, d], .agg #[.int .i64 nb, .int .i64 na]] w fun e w' => e = faceV m nb na ∧ Below w.heap.size w w' := by
  obtain ⟨x0, x1, x2, ha⟩ := al3_at w (.cells #[.int .i64 m.wd, .int .i64 m.rk, f, b, c, l, d] 27) (.cells #[.int .i64 nb, .int .i64 na] 45) (.cells #[.int .i64 0, .int .i64 0] 45)
  have H := Lib.hid (h.below ha hB)
  have HA := Lib.hid ha
  have X0 := Lib.hid x0
  have X1 := Lib.hid x1
  have X2 := Lib.hid x2
  clear ha h x0 x1 x2
  cases hok : okM m
  · have HT := Lib.hid (faceV_no (m := m) (b := nb) (a := na) (by simp [faceOk, hok]))
    go_enter Try.func27, Try.ntmps27
    go_wp2_with fail
    (refine (is_below hok (ValidMachine_any H.out (by simp; omega))).mono ?_)
    rintro e w3 ⟨rfl, hb3⟩
    have hz3 : w.heap.size + 1 + 1 < w3.heap.size := by have := hb3.size; simp at this; omega
    have Y0 := Lib.hid (keep_fwd hb3 X0.out)
    have Y1 := Lib.hid (keep_fwd hb3 X1.out)
    have Y2 := Lib.hid (keep_fwd hb3 X2.out)
    have HB3 := Lib.hid (HA.out.trans (hb3.mono (by simp; omega)))
    clear hb3
    obtain ⟨y0, y1, -, -, -⟩ := box2f Y1.out
    obtain ⟨c0, c1, f0, f1, -⟩ := box2f Y2.out
    have hg2 := heap_lt Y2.out
    go_wp2_with fail
    refine bodyPost_ret (v := .tuple #[.agg #[.int .i64 0, .int .i64 0], .bool false]) (by simp [results, Try.results27, go_sem, c0, c1]) rfl ⟨by rw [HT.out], ?_⟩
    exact setB (by first | omega | (simp only; omega)) (setB (by first | omega | (simp only; omega)) HB3.out)
  · cases hnd : ndlB nb na
    · have HT := Lib.hid (faceV_no (m := m) (b := nb) (a := na) (by simp [faceOk, hnd]))
      go_enter Try.func27, Try.ntmps27
      go_wp2_with fail
      (refine (is_below hok (ValidMachine_any H.out (by simp; omega))).mono ?_)
      rintro e w3 ⟨rfl, hb3⟩
      have hz3 : w.heap.size + 1 + 1 < w3.heap.size := by have := hb3.size; simp at this; omega
      have Y0 := Lib.hid (keep_fwd hb3 X0.out)
      have Y1 := Lib.hid (keep_fwd hb3 X1.out)
      have Y2 := Lib.hid (keep_fwd hb3 X2.out)
      have HB3 := Lib.hid (HA.out.trans (hb3.mono (by simp; omega)))
      clear hb3
      obtain ⟨y0, y1, -, -, -⟩ := box2f Y1.out
      go_wp2_with fail
      (refine (is_below hnd (ValidNeedle_any _ _ _)).mono ?_)
      rintro e w4 ⟨rfl, hb4⟩
      have hz4 : w.heap.size + 1 + 1 < w4.heap.size := by have := hb4.size; omega
      have V0 := Lib.hid (keep_fwd hb4 Y0.out)
      have V1 := Lib.hid (keep_fwd hb4 Y1.out)
      have V2 := Lib.hid (keep_fwd hb4 Y2.out)
      have HB4 := Lib.hid (HB3.out.trans (hb4.mono (by omega)))
      clear hb4 y0 y1
      obtain ⟨y0, y1, -, -, -⟩ := box2f V1.out
      obtain ⟨⟨p0, p1, -, -, -, -, -⟩, -, -⟩ := box7 V0.out
      obtain ⟨c0, c1, f0, f1, -⟩ := box2f V2.out
      have hg2 := heap_lt V2.out
      go_wp2_with fail
      refine bodyPost_ret (v := .tuple #[.agg #[.int .i64 0, .int .i64 0], .bool false]) (by simp [results, Try.results27, go_sem, c0, c1]) rfl ⟨by rw [HT.out], ?_⟩
      exact setB (by first | omega | (simp only; omega)) (setB (by first | omega | (simp only; omega)) HB4.out)
    · by_cases hlt : na < m.wd
      · have hge : ¬ m.wd ≤ na := by omega
        have hrk := (okM_iff.1 hok).rk
        have hwd := (okM_iff.1 hok).wd
        obtain ⟨hnb, na0, na1⟩ := ndl_bds hnd
        cases hin : inR (faceP m nb na) 0 (m.wd - 1)
        · have HT := Lib.hid (faceV_no (m := m) (b := nb) (a := na) (by simp [faceOk, hin]))
          go_enter Try.func27, Try.ntmps27
          go_wp2_with fail
          (refine (is_below hok (ValidMachine_any H.out (by simp; omega))).mono ?_)
          rintro e w3 ⟨rfl, hb3⟩
          have hz3 : w.heap.size + 1 + 1 < w3.heap.size := by have := hb3.size; simp at this; omega
          have Y0 := Lib.hid (keep_fwd hb3 X0.out)
          have Y1 := Lib.hid (keep_fwd hb3 X1.out)
          have Y2 := Lib.hid (keep_fwd hb3 X2.out)
          have HB3 := Lib.hid (HA.out.trans (hb3.mono (by simp; omega)))
          clear hb3
          obtain ⟨y0, y1, -, -, -⟩ := box2f Y1.out
          go_wp2_with fail
          (refine (is_below hnd (ValidNeedle_any _ _ _)).mono ?_)
          rintro e w4 ⟨rfl, hb4⟩
          have hz4 : w.heap.size + 1 + 1 < w4.heap.size := by have := hb4.size; omega
          have V0 := Lib.hid (keep_fwd hb4 Y0.out)
          have V1 := Lib.hid (keep_fwd hb4 Y1.out)
          have V2 := Lib.hid (keep_fwd hb4 Y2.out)
          have HB4 := Lib.hid (HB3.out.trans (hb4.mono (by omega)))
          clear hb4 y0 y1
          obtain ⟨y0, y1, -, -, -⟩ := box2f V1.out
          obtain ⟨⟨p0, p1, -, -, -, -, -⟩, -, -⟩ := box7 V0.out
          go_wp2_with fail
          (refine (facing_any V0.out hnb ⟨na0, na1⟩ hrk hwd).mono ?_)
          rintro e w5 ⟨rfl, hb5⟩
          have hz5 : w.heap.size + 1 + 1 < w5.heap.size := by have := hb5.size; omega
          have U2 := Lib.hid (keep_fwd hb5 V2.out)
          have HB5 := Lib.hid (HB4.out.trans (hb5.mono (by omega)))
          clear hb5 y0 y1 p0 p1
          rw [hin]
          obtain ⟨c0, c1, f0, f1, -⟩ := box2f U2.out
          have hne : ¬ w5.heap.size = w.heap.size + 1 + 1 := by omega
          go_wp2_with fail
          refine bodyPost_ret (v := .tuple #[.agg #[.int .i64 0, .int .i64 0], .bool false]) (by simp [results, Try.results27, go_sem, c0, c1, hz5]) rfl ⟨by rw [HT.out], ?_⟩
          exact (setB (by first | omega | (simp only; omega)) (setB (by first | omega | (simp only; omega)) HB5.out)).alloc (by simp [World.setCell]; omega) _
        · have HT := Lib.hid (faceV_yes (m := m) (b := nb) (a := na) (by simp [faceOk, hok, hnd, hlt, hin]))
          go_enter Try.func27, Try.ntmps27
          go_wp2_with fail
          (refine (is_below hok (ValidMachine_any H.out (by simp; omega))).mono ?_)
          rintro e w3 ⟨rfl, hb3⟩
          have hz3 : w.heap.size + 1 + 1 < w3.heap.size := by have := hb3.size; simp at this; omega
          have Y0 := Lib.hid (keep_fwd hb3 X0.out)
          have Y1 := Lib.hid (keep_fwd hb3 X1.out)
          have Y2 := Lib.hid (keep_fwd hb3 X2.out)
          have HB3 := Lib.hid (HA.out.trans (hb3.mono (by simp; omega)))
          clear hb3
          obtain ⟨y0, y1, -, -, -⟩ := box2f Y1.out
          go_wp2_with fail
          (refine (is_below hnd (ValidNeedle_any _ _ _)).mono ?_)
          rintro e w4 ⟨rfl, hb4⟩
          have hz4 : w.heap.size + 1 + 1 < w4.heap.size := by have := hb4.size; omega
          have V0 := Lib.hid (keep_fwd hb4 Y0.out)
          have V1 := Lib.hid (keep_fwd hb4 Y1.out)
          have V2 := Lib.hid (keep_fwd hb4 Y2.out)
          have HB4 := Lib.hid (HB3.out.trans (hb4.mono (by omega)))
          clear hb4 y0 y1
          obtain ⟨y0, y1, -, -, -⟩ := box2f V1.out
          obtain ⟨⟨p0, p1, -, -, -, -, -⟩, -, -⟩ := box7 V0.out
          go_wp2_with fail
          (refine (facing_any V0.out hnb ⟨na0, na1⟩ hrk hwd).mono ?_)
          rintro e w5 ⟨rfl, hb5⟩
          have hz5 : w.heap.size + 1 + 1 < w5.heap.size := by have := hb5.size; omega
          have U2 := Lib.hid (keep_fwd hb5 V2.out)
          have HB5 := Lib.hid (HB4.out.trans (hb5.mono (by omega)))
          clear hb5 y0 y1 p0 p1
          rw [hin]
          obtain ⟨c0, c1, f0, f1, -⟩ := box2f U2.out
          have hne : ¬ w5.heap.size = w.heap.size + 1 + 1 := by omega
          generalize faceP m nb na = P at *
          go_wp2_with fail
          refine bodyPost_ret (v := .tuple #[.agg #[.int .i64 (3 - nb), .int .i64 P], .bool true]) (by simp [results, Try.results27, go_sem, c0, c1, hz5]) rfl ⟨by rw [HT.out], ?_⟩
          exact (setB (by first | omega | (simp only; omega)) (setB (by first | omega | (simp only; omega)) HB5.out)).alloc (by simp [World.setCell]; omega) _
      · have HT := Lib.hid (faceV_no (m := m) (b := nb) (a := na) (by simp [faceOk, hlt]))
        have hge : m.wd ≤ na := by omega
        clear hlt
        go_enter Try.func27, Try.ntmps27
        go_wp2_with fail
        (refine (is_below hok (ValidMachine_any H.out (by simp; omega))).mono ?_)
        rintro e w3 ⟨rfl, hb3⟩
        have hz3 : w.heap.size + 1 + 1 < w3.heap.size := by have := hb3.size; simp at this; omega
        have Y0 := Lib.hid (keep_fwd hb3 X0.out)
        have Y1 := Lib.hid (keep_fwd hb3 X1.out)
        have Y2 := Lib.hid (keep_fwd hb3 X2.out)
        have HB3 := Lib.hid (HA.out.trans (hb3.mono (by simp; omega)))
        clear hb3
        obtain ⟨y0, y1, -, -, -⟩ := box2f Y1.out
        go_wp2_with fail
        (refine (is_below hnd (ValidNeedle_any _ _ _)).mono ?_)
        rintro e w4 ⟨rfl, hb4⟩
        have hz4 : w.heap.size + 1 + 1 < w4.heap.size := by have := hb4.size; omega
        have V0 := Lib.hid (keep_fwd hb4 Y0.out)
        have V1 := Lib.hid (keep_fwd hb4 Y1.out)
        have V2 := Lib.hid (keep_fwd hb4 Y2.out)
        have HB4 := Lib.hid (HB3.out.trans (hb4.mono (by omega)))
        clear hb4 y0 y1
        obtain ⟨y0, y1, -, -, -⟩ := box2f V1.out
        obtain ⟨⟨p0, p1, -, -, -, -, -⟩, -, -⟩ := box7 V0.out
        obtain ⟨c0, c1, f0, f1, -⟩ := box2f V2.out
        have hg2 := heap_lt V2.out
        go_wp2_with fail
        refine bodyPost_ret (v := .tuple #[.agg #[.int .i64 0, .int .i64 0], .bool false]) (by simp [results, Try.results27, go_sem, c0, c1]) rfl ⟨by rw [HT.out], ?_⟩
        exact setB (by first | omega | (simp only; omega)) (setB (by first | omega | (simp only; omega)) HB4.out)
set_option maxRecDepth 100000 in
set_option maxHeartbeats 6400000 in
theorem spec_FacingOf_any {f b c l d : Value} {m : Mac} {nb na : Int} {B : Nat} {w : World} (h : SlM w B f b c l d m) (hB : B ≤ w.heap.size) (hs : smallM m) :
    Calls Try.prog 26 #[.agg #[.int .i64 m.wd, .int .i64 m.rk, f, b, c, l, d], .agg #[.int .i64 nb, .int .i64 na]] w fun e w' => e = faceV m nb na ∧ Below w.heap.size w w' := by
  obtain ⟨x0, x1, x2, ha⟩ := al3_at w (.cells #[.int .i64 m.wd, .int .i64 m.rk, f, b, c, l, d] 27) (.cells #[.int .i64 nb, .int .i64 na] 45) (.cells #[.int .i64 0, .int .i64 0] 45)
  have H := Lib.hid (h.below ha hB)
  have HA := Lib.hid ha
  have X0 := Lib.hid x0
  have X1 := Lib.hid x1
  have X2 := Lib.hid x2
  clear ha h x0 x1 x2
  cases hok : okM m
  · have HT := Lib.hid (faceV_no (m := m) (b := nb) (a := na) (by simp [faceOk, hok]))
    go_enter Try.func26, Try.ntmps26
    go_wp2_with fail
    (refine (is_below hok (l07Ok_any H.out (by simp; omega) X0.out hs)).mono ?_)
    rintro e w3 ⟨rfl, hb3⟩
    have hz3 : w.heap.size + 1 + 1 < w3.heap.size := by have := hb3.size; simp at this; omega
    have Y0 := Lib.hid (keep_fwd hb3 X0.out)
    have Y1 := Lib.hid (keep_fwd hb3 X1.out)
    have Y2 := Lib.hid (keep_fwd hb3 X2.out)
    have HB3 := Lib.hid (HA.out.trans (hb3.mono (by simp; omega)))
    clear hb3
    obtain ⟨y0, y1, -, -, -⟩ := box2f Y1.out
    obtain ⟨c0, c1, f0, f1, -⟩ := box2f Y2.out
    have hg2 := heap_lt Y2.out
    go_wp2_with fail
    refine bodyPost_ret (v := .tuple #[.agg #[.int .i64 0, .int .i64 0], .bool false]) (by simp [results, Try.results26, go_sem, c0, c1]) rfl ⟨by rw [HT.out], ?_⟩
    exact setB (by first | omega | (simp only; omega)) (setB (by first | omega | (simp only; omega)) HB3.out)
  · cases hnd : ndlB nb na
    · have HT := Lib.hid (faceV_no (m := m) (b := nb) (a := na) (by simp [faceOk, hnd]))
      go_enter Try.func26, Try.ntmps26
      go_wp2_with fail
      (refine (is_below hok (l07Ok_any H.out (by simp; omega) X0.out hs)).mono ?_)
      rintro e w3 ⟨rfl, hb3⟩
      have hz3 : w.heap.size + 1 + 1 < w3.heap.size := by have := hb3.size; simp at this; omega
      have Y0 := Lib.hid (keep_fwd hb3 X0.out)
      have Y1 := Lib.hid (keep_fwd hb3 X1.out)
      have Y2 := Lib.hid (keep_fwd hb3 X2.out)
      have HB3 := Lib.hid (HA.out.trans (hb3.mono (by simp; omega)))
      clear hb3
      obtain ⟨y0, y1, -, -, -⟩ := box2f Y1.out
      go_wp2_with fail
      (refine (is_below hnd (l01Needle_any _ _ _)).mono ?_)
      rintro e w4 ⟨rfl, hb4⟩
      have hz4 : w.heap.size + 1 + 1 < w4.heap.size := by have := hb4.size; omega
      have V0 := Lib.hid (keep_fwd hb4 Y0.out)
      have V1 := Lib.hid (keep_fwd hb4 Y1.out)
      have V2 := Lib.hid (keep_fwd hb4 Y2.out)
      have HB4 := Lib.hid (HB3.out.trans (hb4.mono (by omega)))
      clear hb4 y0 y1
      obtain ⟨y0, y1, -, -, -⟩ := box2f V1.out
      obtain ⟨⟨p0, p1, -, -, -, -, -⟩, -, -⟩ := box7 V0.out
      obtain ⟨c0, c1, f0, f1, -⟩ := box2f V2.out
      have hg2 := heap_lt V2.out
      go_wp2_with fail
      refine bodyPost_ret (v := .tuple #[.agg #[.int .i64 0, .int .i64 0], .bool false]) (by simp [results, Try.results26, go_sem, c0, c1]) rfl ⟨by rw [HT.out], ?_⟩
      exact setB (by first | omega | (simp only; omega)) (setB (by first | omega | (simp only; omega)) HB4.out)
    · by_cases hlt : na < m.wd
      · have hge : ¬ m.wd ≤ na := by omega
        have hrk := (okM_iff.1 hok).rk
        have hwd := (okM_iff.1 hok).wd
        obtain ⟨hnb, na0, na1⟩ := ndl_bds hnd
        obtain ⟨r0, r1⟩ := hrk
        obtain ⟨wd0, wd1⟩ := hwd
        have hrk : -3 ≤ m.rk ∧ m.rk ≤ 3 := ⟨r0, r1⟩
        rcases hnb with rfl | rfl
        · have HP := Lib.hid (faceP_no (m := m) (b := 1) (a := na) (by omega))
          have hin0 := faceP_bd (m := m) (b := 1) ⟨na0, na1⟩ hrk
          cases hin : inR (faceP m 1 na) 0 (m.wd - 1)
          · have HT := Lib.hid (faceV_no (m := m) (b := 1) (a := na) (by simp [faceOk, hok, hnd, hlt, hin]))
            rw [HP.out] at hin
            go_enter Try.func26, Try.ntmps26
            go_wp2_with fail
            (refine (is_below hok (l07Ok_any H.out (by simp; omega) X0.out hs)).mono ?_)
            rintro e w3 ⟨rfl, hb3⟩
            have hz3 : w.heap.size + 1 + 1 < w3.heap.size := by have := hb3.size; simp at this; omega
            have Y0 := Lib.hid (keep_fwd hb3 X0.out)
            have Y1 := Lib.hid (keep_fwd hb3 X1.out)
            have Y2 := Lib.hid (keep_fwd hb3 X2.out)
            have HB3 := Lib.hid (HA.out.trans (hb3.mono (by simp; omega)))
            clear hb3
            obtain ⟨y0, y1, -, -, -⟩ := box2f Y1.out
            go_wp2_with fail
            (refine (is_below hnd (l01Needle_any _ _ _)).mono ?_)
            rintro e w4 ⟨rfl, hb4⟩
            have hz4 : w.heap.size + 1 + 1 < w4.heap.size := by have := hb4.size; omega
            have V0 := Lib.hid (keep_fwd hb4 Y0.out)
            have V1 := Lib.hid (keep_fwd hb4 Y1.out)
            have V2 := Lib.hid (keep_fwd hb4 Y2.out)
            have HB4 := Lib.hid (HB3.out.trans (hb4.mono (by omega)))
            clear hb4 y0 y1
            obtain ⟨y0, y1, -, -, -⟩ := box2f V1.out
            obtain ⟨⟨p0, p1, -, -, -, -, -⟩, -, -⟩ := box7 V0.out
            obtain ⟨c0, c1, f0, f1, -⟩ := box2f V2.out
            have hne : ¬ w4.heap.size = w.heap.size + 1 + 1 := by omega
            have hy4 : w.heap.size + 1 < w4.heap.size := by omega
            have hx4 : w.heap.size < w4.heap.size := by omega
            go_wp2_with (go_at_call 44; (refine (is_same hin (l00In_any _ _ _ _)).mono ?_); rintro e w' ⟨rfl, rfl⟩)
            refine bodyPost_ret (v := .tuple #[.agg #[.int .i64 0, .int .i64 0], .bool false]) (by simp [results, Try.results26, go_sem, c0, c1, hz4]) rfl ⟨by rw [HT.out], ?_⟩
            exact (setB (by first | omega | (simp only; omega)) (setB (by first | omega | (simp only; omega)) HB4.out)).alloc (by simp [World.setCell]; omega) _
          · have HT := Lib.hid (faceV_yes (m := m) (b := 1) (a := na) (by simp [faceOk, hok, hnd, hlt, hin]))
            rw [HP.out] at hin HT
            go_enter Try.func26, Try.ntmps26
            go_wp2_with fail
            (refine (is_below hok (l07Ok_any H.out (by simp; omega) X0.out hs)).mono ?_)
            rintro e w3 ⟨rfl, hb3⟩
            have hz3 : w.heap.size + 1 + 1 < w3.heap.size := by have := hb3.size; simp at this; omega
            have Y0 := Lib.hid (keep_fwd hb3 X0.out)
            have Y1 := Lib.hid (keep_fwd hb3 X1.out)
            have Y2 := Lib.hid (keep_fwd hb3 X2.out)
            have HB3 := Lib.hid (HA.out.trans (hb3.mono (by simp; omega)))
            clear hb3
            obtain ⟨y0, y1, -, -, -⟩ := box2f Y1.out
            go_wp2_with fail
            (refine (is_below hnd (l01Needle_any _ _ _)).mono ?_)
            rintro e w4 ⟨rfl, hb4⟩
            have hz4 : w.heap.size + 1 + 1 < w4.heap.size := by have := hb4.size; omega
            have V0 := Lib.hid (keep_fwd hb4 Y0.out)
            have V1 := Lib.hid (keep_fwd hb4 Y1.out)
            have V2 := Lib.hid (keep_fwd hb4 Y2.out)
            have HB4 := Lib.hid (HB3.out.trans (hb4.mono (by omega)))
            clear hb4 y0 y1
            obtain ⟨y0, y1, -, -, -⟩ := box2f V1.out
            obtain ⟨⟨p0, p1, -, -, -, -, -⟩, -, -⟩ := box7 V0.out
            obtain ⟨c0, c1, f0, f1, -⟩ := box2f V2.out
            have hne : ¬ w4.heap.size = w.heap.size + 1 + 1 := by omega
            have hy4 : w.heap.size + 1 < w4.heap.size := by omega
            have hx4 : w.heap.size < w4.heap.size := by omega
            go_wp2_with (go_at_call 44; (refine (is_same hin (l00In_any _ _ _ _)).mono ?_); rintro e w' ⟨rfl, rfl⟩)
            refine bodyPost_ret (v := .tuple #[.agg #[.int .i64 2, .int .i64 (na - m.rk)], .bool true]) (by simp [results, Try.results26, go_sem, c0, c1, hz4]) rfl ⟨by rw [HT.out]; rfl, ?_⟩
            exact (setB (by first | omega | (simp only; omega)) (setB (by first | omega | (simp only; omega)) HB4.out)).alloc (by simp [World.setCell]; omega) _
        · have HP := Lib.hid (faceP_yes (m := m) (b := 2) (a := na) (by omega))
          have hin0 := faceP_bd (m := m) (b := 2) ⟨na0, na1⟩ hrk
          cases hin : inR (faceP m 2 na) 0 (m.wd - 1)
          · have HT := Lib.hid (faceV_no (m := m) (b := 2) (a := na) (by simp [faceOk, hok, hnd, hlt, hin]))
            rw [HP.out] at hin
            go_enter Try.func26, Try.ntmps26
            go_wp2_with fail
            (refine (is_below hok (l07Ok_any H.out (by simp; omega) X0.out hs)).mono ?_)
            rintro e w3 ⟨rfl, hb3⟩
            have hz3 : w.heap.size + 1 + 1 < w3.heap.size := by have := hb3.size; simp at this; omega
            have Y0 := Lib.hid (keep_fwd hb3 X0.out)
            have Y1 := Lib.hid (keep_fwd hb3 X1.out)
            have Y2 := Lib.hid (keep_fwd hb3 X2.out)
            have HB3 := Lib.hid (HA.out.trans (hb3.mono (by simp; omega)))
            clear hb3
            obtain ⟨y0, y1, -, -, -⟩ := box2f Y1.out
            go_wp2_with fail
            (refine (is_below hnd (l01Needle_any _ _ _)).mono ?_)
            rintro e w4 ⟨rfl, hb4⟩
            have hz4 : w.heap.size + 1 + 1 < w4.heap.size := by have := hb4.size; omega
            have V0 := Lib.hid (keep_fwd hb4 Y0.out)
            have V1 := Lib.hid (keep_fwd hb4 Y1.out)
            have V2 := Lib.hid (keep_fwd hb4 Y2.out)
            have HB4 := Lib.hid (HB3.out.trans (hb4.mono (by omega)))
            clear hb4 y0 y1
            obtain ⟨y0, y1, -, -, -⟩ := box2f V1.out
            obtain ⟨⟨p0, p1, -, -, -, -, -⟩, -, -⟩ := box7 V0.out
            obtain ⟨c0, c1, f0, f1, -⟩ := box2f V2.out
            have hne : ¬ w4.heap.size = w.heap.size + 1 + 1 := by omega
            have hy4 : w.heap.size + 1 < w4.heap.size := by omega
            have hx4 : w.heap.size < w4.heap.size := by omega
            go_wp2_with (go_at_call 44; (refine (is_same hin (l00In_any _ _ _ _)).mono ?_); rintro e w' ⟨rfl, rfl⟩)
            refine bodyPost_ret (v := .tuple #[.agg #[.int .i64 0, .int .i64 0], .bool false]) (by simp [results, Try.results26, go_sem, c0, c1, hz4]) rfl ⟨by rw [HT.out], ?_⟩
            exact (setB (by first | omega | (simp only; omega)) (setB (by first | omega | (simp only; omega)) HB4.out)).alloc (by simp [World.setCell]; omega) _
          · have HT := Lib.hid (faceV_yes (m := m) (b := 2) (a := na) (by simp [faceOk, hok, hnd, hlt, hin]))
            rw [HP.out] at hin HT
            go_enter Try.func26, Try.ntmps26
            go_wp2_with fail
            (refine (is_below hok (l07Ok_any H.out (by simp; omega) X0.out hs)).mono ?_)
            rintro e w3 ⟨rfl, hb3⟩
            have hz3 : w.heap.size + 1 + 1 < w3.heap.size := by have := hb3.size; simp at this; omega
            have Y0 := Lib.hid (keep_fwd hb3 X0.out)
            have Y1 := Lib.hid (keep_fwd hb3 X1.out)
            have Y2 := Lib.hid (keep_fwd hb3 X2.out)
            have HB3 := Lib.hid (HA.out.trans (hb3.mono (by simp; omega)))
            clear hb3
            obtain ⟨y0, y1, -, -, -⟩ := box2f Y1.out
            go_wp2_with fail
            (refine (is_below hnd (l01Needle_any _ _ _)).mono ?_)
            rintro e w4 ⟨rfl, hb4⟩
            have hz4 : w.heap.size + 1 + 1 < w4.heap.size := by have := hb4.size; omega
            have V0 := Lib.hid (keep_fwd hb4 Y0.out)
            have V1 := Lib.hid (keep_fwd hb4 Y1.out)
            have V2 := Lib.hid (keep_fwd hb4 Y2.out)
            have HB4 := Lib.hid (HB3.out.trans (hb4.mono (by omega)))
            clear hb4 y0 y1
            obtain ⟨y0, y1, -, -, -⟩ := box2f V1.out
            obtain ⟨⟨p0, p1, -, -, -, -, -⟩, -, -⟩ := box7 V0.out
            obtain ⟨c0, c1, f0, f1, -⟩ := box2f V2.out
            have hne : ¬ w4.heap.size = w.heap.size + 1 + 1 := by omega
            have hy4 : w.heap.size + 1 < w4.heap.size := by omega
            have hx4 : w.heap.size < w4.heap.size := by omega
            go_wp2_with (go_at_call 44; (refine (is_same hin (l00In_any _ _ _ _)).mono ?_); rintro e w' ⟨rfl, rfl⟩)
            refine bodyPost_ret (v := .tuple #[.agg #[.int .i64 1, .int .i64 (na + m.rk)], .bool true]) (by simp [results, Try.results26, go_sem, c0, c1, hz4]) rfl ⟨by rw [HT.out]; rfl, ?_⟩
            exact (setB (by first | omega | (simp only; omega)) (setB (by first | omega | (simp only; omega)) HB4.out)).alloc (by simp [World.setCell]; omega) _
      · have HT := Lib.hid (faceV_no (m := m) (b := nb) (a := na) (by simp [faceOk, hlt]))
        have hge : m.wd ≤ na := by omega
        clear hlt
        go_enter Try.func26, Try.ntmps26
        go_wp2_with fail
        (refine (is_below hok (l07Ok_any H.out (by simp; omega) X0.out hs)).mono ?_)
        rintro e w3 ⟨rfl, hb3⟩
        have hz3 : w.heap.size + 1 + 1 < w3.heap.size := by have := hb3.size; simp at this; omega
        have Y0 := Lib.hid (keep_fwd hb3 X0.out)
        have Y1 := Lib.hid (keep_fwd hb3 X1.out)
        have Y2 := Lib.hid (keep_fwd hb3 X2.out)
        have HB3 := Lib.hid (HA.out.trans (hb3.mono (by simp; omega)))
        clear hb3
        obtain ⟨y0, y1, -, -, -⟩ := box2f Y1.out
        go_wp2_with fail
        (refine (is_below hnd (l01Needle_any _ _ _)).mono ?_)
        rintro e w4 ⟨rfl, hb4⟩
        have hz4 : w.heap.size + 1 + 1 < w4.heap.size := by have := hb4.size; omega
        have V0 := Lib.hid (keep_fwd hb4 Y0.out)
        have V1 := Lib.hid (keep_fwd hb4 Y1.out)
        have V2 := Lib.hid (keep_fwd hb4 Y2.out)
        have HB4 := Lib.hid (HB3.out.trans (hb4.mono (by omega)))
        clear hb4 y0 y1
        obtain ⟨y0, y1, -, -, -⟩ := box2f V1.out
        obtain ⟨⟨p0, p1, -, -, -, -, -⟩, -, -⟩ := box7 V0.out
        obtain ⟨c0, c1, f0, f1, -⟩ := box2f V2.out
        have hg2 := heap_lt V2.out
        go_wp2_with fail
        refine bodyPost_ret (v := .tuple #[.agg #[.int .i64 0, .int .i64 0], .bool false]) (by simp [results, Try.results26, go_sem, c0, c1]) rfl ⟨by rw [HT.out], ?_⟩
        exact setB (by first | omega | (simp only; omega)) (setB (by first | omega | (simp only; omega)) HB4.out)
end Go.Proofs.Ytbefioljddhhpaa
