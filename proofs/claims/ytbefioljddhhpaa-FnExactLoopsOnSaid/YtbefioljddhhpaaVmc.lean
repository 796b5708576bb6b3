/-
  Contracts: LoopsOn of the program and of the reference. Printed by gen_vmc.py.
-/
import Derived.Test.YtbefioljddhhpaaVmb
namespace Go.Proofs.Ytbefioljddhhpaa
set_option maxRecDepth 10000
open Go.RowKit

set_option maxRecDepth 100000 in
set_option maxHeartbeats 6400000 in
theorem impl_LoopsOn_any {f b c l d : Value} {m : Mac} {nb na : Int} {B : Nat} {w : World} (h : SlM w B f b c l d m) (hB : B ≤ w.heap.size) :
    Calls Try.prog 30 #[.agg #[.int .i64 m.wd, .int .i64 m.rk, f, b, c, l, d], .agg #[.int .i64 nb, .int .i64 na]] w fun e w' => ∃ r, e = .returned r ∧ Ow w' w.heap.size w'.heap.size r (onL m nb na) ∧ Below w.heap.size w w' := by
  have ha := al2 w (.cells #[.int .i64 m.wd, .int .i64 m.rk, f, b, c, l, d] 27) (.cells #[.int .i64 nb, .int .i64 na] 45)
  have x0 := al2_at w (.cells #[.int .i64 m.wd, .int .i64 m.rk, f, b, c, l, d] 27) (.cells #[.int .i64 nb, .int .i64 na] 45)
  have x1 : ((w.alloc (.cells #[.int .i64 m.wd, .int .i64 m.rk, f, b, c, l, d] 27)).alloc (.cells #[.int .i64 nb, .int .i64 na] 45)).heap[w.heap.size + 1]? = some (.cells #[.int .i64 nb, .int .i64 na] 45) := by have := alloc_at_ (w.alloc (.cells #[.int .i64 m.wd, .int .i64 m.rk, f, b, c, l, d] 27)) (.cells #[.int .i64 nb, .int .i64 na] 45); rw [World.size_alloc] at this; exact this
  have H := Lib.hid (h.below ha hB)
  have HA := Lib.hid ha
  have X0 := Lib.hid x0
  have X1 := Lib.hid x1
  have HH := Lib.hid h
  clear ha h x0 x1
  cases hok : okM m
  · have HT := Lib.hid (onL_no (m := m) (b := nb) (a := na) (by simp [onOk, hok]))
    go_enter Try.func30, Try.ntmps30
    go_wp2_with fail
    (refine (is_below hok (ValidMachine_any H.out (by simp; omega))).mono ?_)
    rintro e w3 ⟨rfl, hb3⟩
    have hz3 : w.heap.size + 1 < w3.heap.size := by have := hb3.size; simp at this; omega
    have Y0 := Lib.hid (keep_fwd hb3 X0.out)
    have Y1 := Lib.hid (keep_fwd hb3 X1.out)
    have HB3 := Lib.hid (HA.out.trans (hb3.mono (by simp; omega)))
    clear hb3
    obtain ⟨y0, y1, -, -, -⟩ := box2f Y1.out
    go_wp2_with fail
    go_ret
    exact ⟨_, rfl, by rw [HT.out]; exact Ow.nil _ _ _, HB3.out⟩
  · cases hnd : ndlB nb na
    · have HT := Lib.hid (onL_no (m := m) (b := nb) (a := na) (by simp [onOk, hnd]))
      go_enter Try.func30, Try.ntmps30
      go_wp2_with fail
      (refine (is_below hok (ValidMachine_any H.out (by simp; omega))).mono ?_)
      rintro e w3 ⟨rfl, hb3⟩
      have hz3 : w.heap.size + 1 < w3.heap.size := by have := hb3.size; simp at this; omega
      have Y0 := Lib.hid (keep_fwd hb3 X0.out)
      have Y1 := Lib.hid (keep_fwd hb3 X1.out)
      have HB3 := Lib.hid (HA.out.trans (hb3.mono (by simp; omega)))
      clear hb3
      obtain ⟨y0, y1, -, -, -⟩ := box2f Y1.out
      go_wp2_with fail
      (refine (is_below hnd (ValidNeedle_any _ _ _)).mono ?_)
      rintro e w4 ⟨rfl, hb4⟩
      have hz4 : w.heap.size + 1 < w4.heap.size := by have := hb4.size; omega
      have V0 := Lib.hid (keep_fwd hb4 Y0.out)
      have V1 := Lib.hid (keep_fwd hb4 Y1.out)
      have HB4 := Lib.hid (HB3.out.trans (hb4.mono (by omega)))
      clear hb4 y0 y1
      obtain ⟨y0, y1, -, -, -⟩ := box2f V1.out
      obtain ⟨⟨p0, p1, -, -, -, -, -⟩, -, -⟩ := box7 V0.out
      go_wp2_with fail
      go_ret
      exact ⟨_, rfl, by rw [HT.out]; exact Ow.nil _ _ _, HB4.out⟩
    · by_cases hlt : na < m.wd
      · have hge : ¬ m.wd ≤ na := by omega
        have HO := okM_iff.1 hok
        obtain ⟨hnb, na0, na1⟩ := ndl_bds hnd
        have HT := Lib.hid (onL_yes (m := m) (b := nb) (a := na) (by simp [onOk, hok, hnd, hlt]))
        have hl4 : (m.on nb na).length ≤ 4 := on_len HO ⟨hnb, na0, hlt⟩
        have hsd := HO.sdlt (b := nb) ⟨hnb, na0, hlt⟩
        obtain ⟨k, rfl⟩ : ∃ k : Nat, na = (k : Int) := ⟨na.toNat, by omega⟩
        obtain ⟨p, o, n, cap, u, e1, e2, hu, hsu⟩ := HH.out.at_ hsd
        rw [Int.toNat_natCast] at hu hsd
        have hpl := block_lt_of_cell hu
        simp only at hpl
        have hkn : k < n := by omega
        have E1 := Lib.hid e1
        have HU := Lib.hid hu
        have HSU := Lib.hid hsu
        have HN := Lib.hid hnb
        clear e1 e2 hu hsu hsd HO hnb
        go_enter Try.func30, Try.ntmps30
        go_wp2_with fail
        (refine (is_below hok (ValidMachine_any H.out (by simp; omega))).mono ?_)
        rintro e w3 ⟨rfl, hb3⟩
        have hz3 : w.heap.size + 1 < w3.heap.size := by have := hb3.size; simp at this; omega
        have Y0 := Lib.hid (keep_fwd hb3 X0.out)
        have Y1 := Lib.hid (keep_fwd hb3 X1.out)
        have HB3 := Lib.hid (HA.out.trans (hb3.mono (by simp; omega)))
        clear hb3
        obtain ⟨y0, y1, -, -, -⟩ := box2f Y1.out
        go_wp2_with fail
        (refine (is_below hnd (ValidNeedle_any _ _ _)).mono ?_)
        rintro e w4 ⟨rfl, hb4⟩
        have hz4 : w.heap.size + 1 < w4.heap.size := by have := hb4.size; omega
        have V0 := Lib.hid (keep_fwd hb4 Y0.out)
        have V1 := Lib.hid (keep_fwd hb4 Y1.out)
        have HB4 := Lib.hid (HB3.out.trans (hb4.mono (by omega)))
        clear hb4 y0 y1
        obtain ⟨y0, y1, -, -, -⟩ := box2f V1.out
        obtain ⟨⟨p0, p1, -, -, -, -, -⟩, -, -⟩ := box7 V0.out
        go_wp2_with fail
        (refine (on_any V0.out HN.out rfl hkn E1.out).mono ?_)
        rintro e w5 ⟨rfl, hb5⟩
        have HB5 := Lib.hid (HB4.out.trans (hb5.mono (by omega)))
        have hu5 := (HB5.out.cell (p := ⟨p, o + k, none⟩) hpl).trans HU.out
        clear hb5 y0 y1 p0 p1
        go_wp2_with fail
        (refine (cloneInts_any _ (m.on nb k) B w5 (HSU.out.below HB5.out hB) (Nat.le_trans hB HB5.out.size) (by omega)).mono ?_)
        rintro e w6 ⟨r, rfl, ho6, hb6⟩
        have HO6 := Lib.hid ho6
        have HB6 := Lib.hid hb6
        clear ho6 hb6
        have hz5 := HB5.out.size
        go_wp2_with fail
        go_ret
        exact ⟨_, rfl, by rw [HT.out]; exact HO6.out.mono hz5 (Nat.le_refl _), HB5.out.trans (HB6.out.mono hz5)⟩
      · have HT := Lib.hid (onL_no (m := m) (b := nb) (a := na) (by simp [onOk, hlt]))
        have hge : m.wd ≤ na := by omega
        clear hlt
        go_enter Try.func30, Try.ntmps30
        go_wp2_with fail
        (refine (is_below hok (ValidMachine_any H.out (by simp; omega))).mono ?_)
        rintro e w3 ⟨rfl, hb3⟩
        have hz3 : w.heap.size + 1 < w3.heap.size := by have := hb3.size; simp at this; omega
        have Y0 := Lib.hid (keep_fwd hb3 X0.out)
        have Y1 := Lib.hid (keep_fwd hb3 X1.out)
        have HB3 := Lib.hid (HA.out.trans (hb3.mono (by simp; omega)))
        clear hb3
        obtain ⟨y0, y1, -, -, -⟩ := box2f Y1.out
        go_wp2_with fail
        (refine (is_below hnd (ValidNeedle_any _ _ _)).mono ?_)
        rintro e w4 ⟨rfl, hb4⟩
        have hz4 : w.heap.size + 1 < w4.heap.size := by have := hb4.size; omega
        have V0 := Lib.hid (keep_fwd hb4 Y0.out)
        have V1 := Lib.hid (keep_fwd hb4 Y1.out)
        have HB4 := Lib.hid (HB3.out.trans (hb4.mono (by omega)))
        clear hb4 y0 y1
        obtain ⟨y0, y1, -, -, -⟩ := box2f V1.out
        obtain ⟨⟨p0, p1, -, -, -, -, -⟩, -, -⟩ := box7 V0.out
        go_wp2_with fail
        go_ret
        exact ⟨_, rfl, by rw [HT.out]; exact Ow.nil _ _ _, HB4.out⟩
set_option maxRecDepth 100000 in
set_option maxHeartbeats 6400000 in
theorem spec_LoopsOn_any {f b c l d : Value} {m : Mac} {nb na : Int} {B : Nat} {w : World} (h : SlM w B f b c l d m) (hB : B ≤ w.heap.size) (hs : smallM m) :
    Calls Try.prog 29 #[.agg #[.int .i64 m.wd, .int .i64 m.rk, f, b, c, l, d], .agg #[.int .i64 nb, .int .i64 na]] w fun e w' => ∃ r, e = .returned r ∧ Ow w' w.heap.size w'.heap.size r (onL m nb na) ∧ Below w.heap.size w w' := by
  have ha := al2 w (.cells #[.int .i64 m.wd, .int .i64 m.rk, f, b, c, l, d] 27) (.cells #[.int .i64 nb, .int .i64 na] 45)
  have x0 := al2_at w (.cells #[.int .i64 m.wd, .int .i64 m.rk, f, b, c, l, d] 27) (.cells #[.int .i64 nb, .int .i64 na] 45)
  have x1 : ((w.alloc (.cells #[.int .i64 m.wd, .int .i64 m.rk, f, b, c, l, d] 27)).alloc (.cells #[.int .i64 nb, .int .i64 na] 45)).heap[w.heap.size + 1]? = some (.cells #[.int .i64 nb, .int .i64 na] 45) := by have := alloc_at_ (w.alloc (.cells #[.int .i64 m.wd, .int .i64 m.rk, f, b, c, l, d] 27)) (.cells #[.int .i64 nb, .int .i64 na] 45); rw [World.size_alloc] at this; exact this
  have H := Lib.hid (h.below ha hB)
  have HA := Lib.hid ha
  have X0 := Lib.hid x0
  have X1 := Lib.hid x1
  have HH := Lib.hid h
  clear ha h x0 x1
  cases hok : okM m
  · have HT := Lib.hid (onL_no (m := m) (b := nb) (a := na) (by simp [onOk, hok]))
    go_enter Try.func29, Try.ntmps29
    go_wp2_with fail
    (refine (is_below hok (l07Ok_any H.out (by simp; omega) X0.out hs)).mono ?_)
    rintro e w3 ⟨rfl, hb3⟩
    have hz3 : w.heap.size + 1 < w3.heap.size := by have := hb3.size; simp at this; omega
    have Y0 := Lib.hid (keep_fwd hb3 X0.out)
    have Y1 := Lib.hid (keep_fwd hb3 X1.out)
    have HB3 := Lib.hid (HA.out.trans (hb3.mono (by simp; omega)))
    clear hb3
    obtain ⟨y0, y1, -, -, -⟩ := box2f Y1.out
    go_wp2_with fail
    go_ret
    exact ⟨_, rfl, by rw [HT.out]; exact Ow.nil _ _ _, HB3.out⟩
  · cases hnd : ndlB nb na
    · have HT := Lib.hid (onL_no (m := m) (b := nb) (a := na) (by simp [onOk, hnd]))
      go_enter Try.func29, Try.ntmps29
      go_wp2_with fail
      (refine (is_below hok (l07Ok_any H.out (by simp; omega) X0.out hs)).mono ?_)
      rintro e w3 ⟨rfl, hb3⟩
      have hz3 : w.heap.size + 1 < w3.heap.size := by have := hb3.size; simp at this; omega
      have Y0 := Lib.hid (keep_fwd hb3 X0.out)
      have Y1 := Lib.hid (keep_fwd hb3 X1.out)
      have HB3 := Lib.hid (HA.out.trans (hb3.mono (by simp; omega)))
      clear hb3
      obtain ⟨y0, y1, -, -, -⟩ := box2f Y1.out
      go_wp2_with fail
      (refine (is_below hnd (l01Needle_any _ _ _)).mono ?_)
      rintro e w4 ⟨rfl, hb4⟩
      have hz4 : w.heap.size + 1 < w4.heap.size := by have := hb4.size; omega
      have V0 := Lib.hid (keep_fwd hb4 Y0.out)
      have V1 := Lib.hid (keep_fwd hb4 Y1.out)
      have HB4 := Lib.hid (HB3.out.trans (hb4.mono (by omega)))
      clear hb4 y0 y1
      obtain ⟨y0, y1, -, -, -⟩ := box2f V1.out
      obtain ⟨⟨p0, p1, -, -, -, -, -⟩, -, -⟩ := box7 V0.out
      go_wp2_with fail
      go_ret
      exact ⟨_, rfl, by rw [HT.out]; exact Ow.nil _ _ _, HB4.out⟩
    · by_cases hlt : na < m.wd
      · have hge : ¬ m.wd ≤ na := by omega
        have HO := okM_iff.1 hok
        obtain ⟨hnb, na0, na1⟩ := ndl_bds hnd
        have HT := Lib.hid (onL_yes (m := m) (b := nb) (a := na) (by simp [onOk, hok, hnd, hlt]))
        have hl4 : (m.on nb na).length ≤ 4 := on_len HO ⟨hnb, na0, hlt⟩
        have hsd := HO.sdlt (b := nb) ⟨hnb, na0, hlt⟩
        obtain ⟨k, rfl⟩ : ∃ k : Nat, na = (k : Int) := ⟨na.toNat, by omega⟩
        obtain ⟨p, o, n, cap, u, e1, e2, hu, hsu⟩ := HH.out.at_ hsd
        rw [Int.toNat_natCast] at hu hsd
        have hpl := block_lt_of_cell hu
        simp only at hpl
        have hkn : k < n := by omega
        have E1 := Lib.hid e1
        have HU := Lib.hid hu
        have HSU := Lib.hid hsu
        have HN := Lib.hid hnb
        clear e1 e2 hu hsu hsd HO hnb
        go_enter Try.func29, Try.ntmps29
        go_wp2_with fail
        (refine (is_below hok (l07Ok_any H.out (by simp; omega) X0.out hs)).mono ?_)
        rintro e w3 ⟨rfl, hb3⟩
        have hz3 : w.heap.size + 1 < w3.heap.size := by have := hb3.size; simp at this; omega
        have Y0 := Lib.hid (keep_fwd hb3 X0.out)
        have Y1 := Lib.hid (keep_fwd hb3 X1.out)
        have HB3 := Lib.hid (HA.out.trans (hb3.mono (by simp; omega)))
        clear hb3
        obtain ⟨y0, y1, -, -, -⟩ := box2f Y1.out
        go_wp2_with fail
        (refine (is_below hnd (l01Needle_any _ _ _)).mono ?_)
        rintro e w4 ⟨rfl, hb4⟩
        have hz4 : w.heap.size + 1 < w4.heap.size := by have := hb4.size; omega
        have V0 := Lib.hid (keep_fwd hb4 Y0.out)
        have V1 := Lib.hid (keep_fwd hb4 Y1.out)
        have HB4 := Lib.hid (HB3.out.trans (hb4.mono (by omega)))
        clear hb4 y0 y1
        obtain ⟨y0, y1, -, -, -⟩ := box2f V1.out
        obtain ⟨⟨p0, p1, -, -, -, -, -⟩, -, -⟩ := box7 V0.out
        go_wp2_with fail
        (refine (l07On_any V0.out HN.out hkn E1.out ((HB4.out.cell (p := ⟨p, o + k, none⟩) hpl).trans HU.out)).mono ?_)
        rintro e w5 ⟨rfl, hb5⟩
        have HB5 := Lib.hid (HB4.out.trans (hb5.mono (by omega)))
        clear hb5 y0 y1 p0 p1
        go_wp2_with fail
        (refine (l00Own_any _ (m.on nb k) B w5 (HSU.out.below HB5.out hB) (Nat.le_trans hB HB5.out.size) (by omega)).mono ?_)
        rintro e w6 ⟨r, rfl, ho6, hb6⟩
        have HO6 := Lib.hid ho6
        have HB6 := Lib.hid hb6
        clear ho6 hb6
        have hz5 := HB5.out.size
        go_wp2_with fail
        go_ret
        exact ⟨_, rfl, by rw [HT.out]; exact HO6.out.mono hz5 (Nat.le_refl _), HB5.out.trans (HB6.out.mono hz5)⟩
      · have HT := Lib.hid (onL_no (m := m) (b := nb) (a := na) (by simp [onOk, hlt]))
        have hge : m.wd ≤ na := by omega
        clear hlt
        go_enter Try.func29, Try.ntmps29
        go_wp2_with fail
        (refine (is_below hok (l07Ok_any H.out (by simp; omega) X0.out hs)).mono ?_)
        rintro e w3 ⟨rfl, hb3⟩
        have hz3 : w.heap.size + 1 < w3.heap.size := by have := hb3.size; simp at this; omega
        have Y0 := Lib.hid (keep_fwd hb3 X0.out)
        have Y1 := Lib.hid (keep_fwd hb3 X1.out)
        have HB3 := Lib.hid (HA.out.trans (hb3.mono (by simp; omega)))
        clear hb3
        obtain ⟨y0, y1, -, -, -⟩ := box2f Y1.out
        go_wp2_with fail
        (refine (is_below hnd (l01Needle_any _ _ _)).mono ?_)
        rintro e w4 ⟨rfl, hb4⟩
        have hz4 : w.heap.size + 1 < w4.heap.size := by have := hb4.size; omega
        have V0 := Lib.hid (keep_fwd hb4 Y0.out)
        have V1 := Lib.hid (keep_fwd hb4 Y1.out)
        have HB4 := Lib.hid (HB3.out.trans (hb4.mono (by omega)))
        clear hb4 y0 y1
        obtain ⟨y0, y1, -, -, -⟩ := box2f V1.out
        obtain ⟨⟨p0, p1, -, -, -, -, -⟩, -, -⟩ := box7 V0.out
        go_wp2_with fail
        go_ret
        exact ⟨_, rfl, by rw [HT.out]; exact Ow.nil _ _ _, HB4.out⟩
end Go.Proofs.Ytbefioljddhhpaa
