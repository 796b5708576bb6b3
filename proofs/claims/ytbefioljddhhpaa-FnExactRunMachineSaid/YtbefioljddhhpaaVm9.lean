/-
  Contracts: the reference's ValidMachine, l07Place, PlaceOf.
-/
import Derived.Test.YtbefioljddhhpaaVm4
import Derived.Test.YtbefioljddhhpaaVm7
namespace Go.Proofs.Ytbefioljddhhpaa
set_option maxRecDepth 10000
open Go.RowKit

def smallM (m : Mac) : Prop := lenSS m.fr + lenSS m.bk + m.dr.length ≤ 5000000
theorem small_of {m : Mac} (h : (m.size : Int) ≤ 1048576) : smallM m := by unfold smallM; unfold Mac.size at h; omega
set_option maxHeartbeats 1600000 in
theorem spec_ValidMachine_any {f b c l d : Value} {m : Mac} {B : Nat} {w : World} (h : SlM w B f b c l d m) (hB : B ≤ w.heap.size) (hs : smallM m) :
    Calls Try.prog 21 #[.agg #[.int .i64 m.wd, .int .i64 m.rk, f, b, c, l, d]] w fun e w' => e = .returned (.bool (okM m)) ∧ Below w.heap.size w w' := by
  have ha := al1 w (.cells #[.int .i64 m.wd, .int .i64 m.rk, f, b, c, l, d] 27)
  have H := Lib.hid (h.below ha hB)
  have HA := Lib.hid ha
  have X := Lib.hid (alloc_at_ w (.cells #[.int .i64 m.wd, .int .i64 m.rk, f, b, c, l, d] 27))
  clear ha h
  go_enter Try.func21, Try.ntmps21
  go_wp2_with (go_at_call 72; (refine (l07Ok_any H.out (by simp; omega) X.out hs).mono ?_); rintro e w3 ⟨rfl, hb3⟩)
  go_ret
  exact ⟨rfl, HA.out.trans (hb3.mono (by simp))⟩
set_option maxHeartbeats 800000 in
theorem l07Place_any (b a r : Int) (w : World) (h1 : 0 ≤ a ∧ a ≤ 23) (h2 : -3 ≤ r ∧ r ≤ 3) : Calls Try.prog 78 #[.agg #[.int .i64 b, .int .i64 a], .int .i64 r] w fun e w' => e = .returned (.int .i64 (plc b a r)) ∧ Below w.heap.size w w' := by
  obtain ⟨a0, a1⟩ := h1
  obtain ⟨r0, r1⟩ := h2
  by_cases hb : b = 2
  · have HT := Lib.hid (plc_yes (a := a) (r := r) hb)
    subst hb
    go_enter Try.func78, Try.ntmps78
    go_wp2
    go_ret
    exact ⟨ret_int HT.out.symm, al1 _ _⟩
  · have hbb : (b == 2) = false := by simp [hb]
    have HT := Lib.hid (plc_no (a := a) (r := r) hb)
    clear hb
    go_enter Try.func78, Try.ntmps78
    go_wp2
    go_ret
    exact ⟨ret_int HT.out.symm, al1 _ _⟩
theorem al2_at (w : World) (a b : Obj) : ((w.alloc a).alloc b).heap[w.heap.size]? = some a := (Below.heap_alloc _ _ _ (by rw [World.size_alloc]; omega)).trans (alloc_at_ w a)
set_option maxRecDepth 100000 in
set_option maxHeartbeats 3200000 in
theorem spec_PlaceOf_any {f b c l d : Value} {m : Mac} {nb na : Int} {B : Nat} {w : World} (h : SlM w B f b c l d m) (hB : B ≤ w.heap.size) (hs : smallM m) :
    Calls Try.prog 23 #[.agg #[.int .i64 m.wd, .int .i64 m.rk, f, b, c, l, d], .agg #[.int .i64 nb, .int .i64 na]] w fun e w' => e = .returned (.int .i64 (placeM m nb na)) ∧ Below w.heap.size w w' := by
  have ha := al2 w (.cells #[.int .i64 m.wd, .int .i64 m.rk, f, b, c, l, d] 27) (.cells #[.int .i64 nb, .int .i64 na] 45)
  have X := Lib.hid (al2_at w (.cells #[.int .i64 m.wd, .int .i64 m.rk, f, b, c, l, d] 27) (.cells #[.int .i64 nb, .int .i64 na] 45))
  have H := Lib.hid (h.below ha hB)
  have HA := Lib.hid ha
  clear ha h
  cases hok : okM m
  · have HT := Lib.hid (placeM_no1 (b := nb) (a := na) hok)
    go_enter Try.func23, Try.ntmps23
    go_wp2_with (go_at_call 72; (refine (is_below hok (l07Ok_any H.out (by simp; omega) X.out hs)).mono ?_); rintro e w3 ⟨rfl, hb3⟩)
    go_ret
    exact ⟨ret_int HT.out.symm, HA.out.trans (hb3.mono (by simp; omega))⟩
  · cases hnd : ndlB nb na
    · have HT := Lib.hid (placeM_no2 (m := m) hnd)
      go_enter Try.func23, Try.ntmps23
      go_wp2_with (first | (go_at_call 72; (refine (is_below hok (l07Ok_any H.out (by simp; omega) X.out hs)).mono ?_); rintro e w3 ⟨rfl, hb3⟩; obtain ⟨hc, hf⟩ := bcell hb3; (have hz3 : w.heap.size + 1 < w3.heap.size := by have := hb3.size; simp at this; omega); (have hy3 : w.heap.size < w3.heap.size := by omega)) | (go_at_call 77; (refine (is_below hnd (l01Needle_any _ _ _)).mono ?_); rintro e w4 ⟨rfl, hb4⟩))
      go_ret
      exact ⟨ret_int HT.out.symm, HA.out.trans ((hb3.trans (hb4.mono hb3.size)).mono (by simp; omega))⟩
    · have HT := Lib.hid (placeM_yes hok hnd)
      have hrk := (okM_iff.1 hok).rk
      obtain ⟨hnb, na0, na1⟩ := ndl_bds hnd
      go_enter Try.func23, Try.ntmps23
      go_wp2_with (first | (go_at_call 72; (refine (is_below hok (l07Ok_any H.out (by simp; omega) X.out hs)).mono ?_); rintro e w3 ⟨rfl, hb3⟩; obtain ⟨hc, hf⟩ := bcell hb3; (have hz3 : w.heap.size + 1 < w3.heap.size := by have := hb3.size; simp at this; omega); (have hy3 : w.heap.size < w3.heap.size := by omega)) | (go_at_call 77; (refine (is_below hnd (l01Needle_any _ _ _)).mono ?_); rintro e w4 ⟨rfl, hb4⟩; obtain ⟨hc4, hf4⟩ := bcell hb4; have hz4 := hb4.size) | (go_at_call 78; (refine (l07Place_any _ _ _ _ ⟨na0, na1⟩ hrk).mono ?_); rintro e w5 ⟨rfl, hb5⟩))
      go_ret
      exact ⟨ret_int HT.out.symm, HA.out.trans (((hb3.trans (hb4.mono hb3.size)).trans (hb5.mono (Nat.le_trans hb3.size hz4))).mono (by simp; omega))⟩
end Go.Proofs.Ytbefioljddhhpaa
