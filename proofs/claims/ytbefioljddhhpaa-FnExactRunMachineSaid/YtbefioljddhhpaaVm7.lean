/-
  Contracts: the program's place, PlaceOf, facing, FacingOf, on, LoopsOn.
-/
import Derived.Test.YtbefioljddhhpaaVm6
namespace Go.Proofs.Ytbefioljddhhpaa
set_option maxRecDepth 10000
open Go.RowKit

theorem int_below {P : Program} {f : FuncId} {args : Array Value} {w : World} {x b : Int} (hb : x = b) (h : Calls P f args w fun e w' => e = .returned (.int .i64 x) ∧ Below w.heap.size w w') :
    Calls P f args w fun e w' => e = .returned (.int .i64 b) ∧ Below w.heap.size w w' := by rw [← hb]; exact h
theorem plc_yes {b a r : Int} (h : b = 2) : plc b a r = a + r := if_pos h
theorem plc_no {b a r : Int} (h : b ≠ 2) : plc b a r = a := if_neg h
theorem plc_bd {b a r : Int} (h1 : 0 ≤ a ∧ a ≤ 23) (h2 : -3 ≤ r ∧ r ≤ 3) : -3 ≤ plc b a r ∧ plc b a r ≤ 26 := by unfold plc; split <;> omega
set_option maxHeartbeats 800000 in
theorem iplace_any (b a r : Int) (w : World) (h1 : 0 ≤ a ∧ a ≤ 23) (h2 : -3 ≤ r ∧ r ≤ 3) : Calls Try.prog 80 #[.agg #[.int .i64 b, .int .i64 a], .int .i64 r] w fun e w' => e = .returned (.int .i64 (plc b a r)) ∧ Below w.heap.size w w' := by
  obtain ⟨a0, a1⟩ := h1
  obtain ⟨r0, r1⟩ := h2
  by_cases hb : b = 2
  · have HT := Lib.hid (plc_yes (a := a) (r := r) hb)
    subst hb
    go_enter Try.func80, Try.ntmps80
    go_wp2
    go_ret
    exact ⟨ret_int HT.out.symm, al1 _ _⟩
  · have hbb : (b == 2) = false := by simp [hb]
    have HT := Lib.hid (plc_no (a := a) (r := r) hb)
    clear hb
    go_enter Try.func80, Try.ntmps80
    go_wp2
    go_ret
    exact ⟨ret_int HT.out.symm, al1 _ _⟩
def placeM (m : Mac) (b a : Int) : Int := if okM m && ndlB b a then plc b a m.rk else 0
theorem placeM_no1 {m : Mac} {b a : Int} (h : okM m = false) : placeM m b a = 0 := by simp [placeM, h]
theorem placeM_no2 {m : Mac} {b a : Int} (h : ndlB b a = false) : placeM m b a = 0 := by simp [placeM, h]
theorem placeM_yes {m : Mac} {b a : Int} (h : okM m = true) (h2 : ndlB b a = true) : placeM m b a = plc b a m.rk := by simp [placeM, h, h2]
theorem ndl_bds {b a : Int} (h : ndlB b a = true) : (b = 1 ∨ b = 2) ∧ 0 ≤ a ∧ a ≤ 23 := by
  have := ndlB_iff.1 h; omega
set_option maxRecDepth 100000 in
set_option maxHeartbeats 3200000 in
theorem impl_PlaceOf_any {f b c l d : Value} {m : Mac} {nb na : Int} {B : Nat} {w : World} (h : SlM w B f b c l d m) (hB : B ≤ w.heap.size) :
    Calls Try.prog 25 #[.agg #[.int .i64 m.wd, .int .i64 m.rk, f, b, c, l, d], .agg #[.int .i64 nb, .int .i64 na]] w fun e w' => e = .returned (.int .i64 (placeM m nb na)) ∧ Below w.heap.size w w' := by
  have ha := al2 w (.cells #[.int .i64 m.wd, .int .i64 m.rk, f, b, c, l, d] 27) (.cells #[.int .i64 nb, .int .i64 na] 45)
  have H := Lib.hid (h.below ha hB)
  have HA := Lib.hid ha
  clear ha h
  cases hok : okM m
  · have HT := Lib.hid (placeM_no1 (b := nb) (a := na) hok)
    go_enter Try.func25, Try.ntmps25
    go_wp2_with (go_at_call 22; (refine (is_below hok (ValidMachine_any H.out (by simp; omega))).mono ?_); rintro e w3 ⟨rfl, hb3⟩)
    go_ret
    exact ⟨ret_int HT.out.symm, HA.out.trans (hb3.mono (by simp; omega))⟩
  · cases hnd : ndlB nb na
    · have HT := Lib.hid (placeM_no2 (m := m) hnd)
      go_enter Try.func25, Try.ntmps25
      go_wp2_with (first | (go_at_call 22; (refine (is_below hok (ValidMachine_any H.out (by simp; omega))).mono ?_); rintro e w3 ⟨rfl, hb3⟩; obtain ⟨hc, hf⟩ := bcell hb3; (have hz3 : w.heap.size + 1 < w3.heap.size := by have := hb3.size; simp at this; omega); (have hy3 : w.heap.size < w3.heap.size := by omega)) | (go_at_call 79; (refine (is_below hnd (ValidNeedle_any _ _ _)).mono ?_); rintro e w4 ⟨rfl, hb4⟩))
      go_ret
      exact ⟨ret_int HT.out.symm, HA.out.trans ((hb3.trans (hb4.mono hb3.size)).mono (by simp; omega))⟩
    · have HT := Lib.hid (placeM_yes hok hnd)
      have hrk := (okM_iff.1 hok).rk
      obtain ⟨hnb, na0, na1⟩ := ndl_bds hnd
      go_enter Try.func25, Try.ntmps25
      go_wp2_with (first | (go_at_call 22; (refine (is_below hok (ValidMachine_any H.out (by simp; omega))).mono ?_); rintro e w3 ⟨rfl, hb3⟩; obtain ⟨hc, hf⟩ := bcell hb3; (have hz3 : w.heap.size + 1 < w3.heap.size := by have := hb3.size; simp at this; omega); (have hy3 : w.heap.size < w3.heap.size := by omega)) | (go_at_call 79; (refine (is_below hnd (ValidNeedle_any _ _ _)).mono ?_); rintro e w4 ⟨rfl, hb4⟩; obtain ⟨hc4, hf4⟩ := bcell hb4; have hz4 := hb4.size) | (go_at_call 80; (refine (iplace_any _ _ _ _ ⟨na0, na1⟩ hrk).mono ?_); rintro e w5 ⟨rfl, hb5⟩))
      go_ret
      exact ⟨ret_int HT.out.symm, HA.out.trans (((hb3.trans (hb4.mono hb3.size)).trans (hb5.mono (Nat.le_trans hb3.size hz4))).mono (by simp; omega))⟩
theorem cellBed {w : World} {g : Nat} {x0 x1 f b x4 x5 x6 : Value} {t : TypeId} (hx : w.heap[g]? = some (.cells #[x0, x1, f, b, x4, x5, x6] t)) : w.cell? ⟨g, 2, none⟩ = some f ∧ w.cell? ⟨g, 3, none⟩ = some b ∧ g < w.heap.size :=
  ⟨(box7 hx).1.2.2.1, (box7 hx).1.2.2.2.1, heap_lt hx⟩
set_option maxHeartbeats 1600000 in
theorem on_any {x0 x1 f b x4 x5 x6 : Value} {t : TypeId} {g : Nat} {bed a : Int} {p o n c k : Nat} {w : World} (hx : w.heap[g]? = some (.cells #[x0, x1, f, b, x4, x5, x6] t)) (hb : bed = 1 ∨ bed = 2) (ha : a = (k : Int)) (hk : k < n)
    (hs : (if bed = 2 then b else f) = .slice (some ⟨p, o, none⟩) n c) :
    Calls Try.prog 85 #[.pointer (some ⟨g, 0, none⟩), .agg #[.int .i64 bed, .int .i64 a]] w fun e w' => e = .returned (.pointer (some ⟨p, o + k, none⟩)) ∧ Below w.heap.size w w' := by
  obtain ⟨q2, q3, hg⟩ := cellBed hx
  subst ha
  have HA := Lib.hid (al1 w (.cells #[.int .i64 bed, .int .i64 k] 45))
  clear hx
  rcases hb with rfl | rfl
  · rw [if_neg (by omega)] at hs
    subst hs
    go_enter Try.func85, Try.ntmps85
    go_wp2_with fail
    go_quiet (fail)
    go_wp2
    go_ret
    exact ⟨rfl, below_drewN HA.out _⟩
  · rw [if_pos rfl] at hs
    subst hs
    go_enter Try.func85, Try.ntmps85
    go_wp2_with fail
    go_quiet (fail)
    go_wp2
    go_ret
    exact ⟨rfl, below_drewN HA.out _⟩
end Go.Proofs.Ytbefioljddhhpaa
