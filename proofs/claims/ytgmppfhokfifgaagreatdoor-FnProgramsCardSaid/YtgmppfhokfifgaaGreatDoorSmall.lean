/-
  Contracts of the small checks: directions, carriers, racks, beds, needles.
-/
import Derived.Test.YtgmppfhokfifgaaGreatDoorBase
import Derived.Lib.QuietBelow
namespace Go.Proofs.YtgmppfhokfifgaaGreatDoor
set_option maxRecDepth 10000
open Go.RowKit Go.Sort

def dirB (d : Int) : Bool := d == 1 || d == -1
def bedB (b : Int) : Bool := b == 1 || b == 2
def ndlB (b a : Int) : Bool := bedB b && inR a 0 23
theorem dirB_iff {d : Int} : dirB d = true ↔ d = 1 ∨ d = -1 := by simp [dirB]
theorem bedB_iff {b : Int} : bedB b = true ↔ b = 1 ∨ b = 2 := by simp [bedB]
theorem ndlB_iff {b a : Int} : ndlB b a = true ↔ (b = 1 ∨ b = 2) ∧ 0 ≤ a ∧ a ≤ 23 := by simp [ndlB, bedB_iff, inR_iff]

theorem quiet_same {P : Program} {f : FuncId} {args : Array Value} {w : World} {v : Value} (h : Calls P f args w fun e w' => e = .returned v ∧ w = w') :
    Calls P f args w fun e w'' => e = .returned v ∧ ∃ m, w'' = w.drewN m := h.mono fun _ _ ⟨he, hw⟩ => ⟨he, 0, hw.symm⟩
theorem quiet_same_at {P : Program} {f : FuncId} {args : Array Value} {w : World} {a n : Nat} {v : Value} (h : Calls P f args (w.drewN (a + n)) fun e w' => e = .returned v ∧ w.drewN (a + n) = w') :
    Calls P f args (w.drewN (a + n)) fun e w'' => e = .returned v ∧ ∃ m, w'' = w.drewN (a + m) := h.mono fun _ _ ⟨he, hw⟩ => ⟨he, n, hw.symm⟩
theorem quiet_same_on {P : Program} {f : FuncId} {args : Array Value} {w : World} {n : Nat} {v : Value} (h : Calls P f args (w.drewN n) fun e w' => e = .returned v ∧ w.drewN n = w') :
    Calls P f args (w.drewN n) fun e w'' => e = .returned v ∧ ∃ m, w'' = w.drewN m := h.mono fun _ _ ⟨he, hw⟩ => ⟨he, n, hw.symm⟩

/-- A contract that returns a Bool whose value is known. -/
theorem is_same {P : Program} {f : FuncId} {args : Array Value} {w : World} {x b : Bool} (hb : x = b) (h : Calls P f args w fun e w' => e = .returned (.bool x) ∧ w = w') :
    Calls P f args w fun e w' => e = .returned (.bool b) ∧ w = w' := by rw [← hb]; exact h
theorem is_below {P : Program} {f : FuncId} {args : Array Value} {w : World} {x b : Bool} (hb : x = b) (h : Calls P f args w fun e w' => e = .returned (.bool x) ∧ Below w.heap.size w w') :
    Calls P f args w fun e w' => e = .returned (.bool b) ∧ Below w.heap.size w w' := by rw [← hb]; exact h

set_option maxHeartbeats 400000 in
theorem within_any (a b c : Int) (w : World) : Calls Tryz.prog 45 #[.int .i64 a, .int .i64 b, .int .i64 c] w fun e w' => e = .returned (.bool (inR a b c)) ∧ w = w' := by
  go_enter Tryz.func45, Tryz.ntmps45
  go_wp2
  all_goals (go_ret; exact ⟨ret_bool (by simp_all [inR] <;> omega), rfl⟩)
set_option maxHeartbeats 400000 in
theorem l00In_any (a b c : Int) (w : World) : Calls Tryz.prog 38 #[.int .i64 a, .int .i64 b, .int .i64 c] w fun e w' => e = .returned (.bool (inR a b c)) ∧ w = w' := by
  go_enter Tryz.func38, Tryz.ntmps38
  go_wp2
  all_goals (go_ret; exact ⟨ret_bool (by simp_all [inR] <;> omega), rfl⟩)
set_option maxHeartbeats 400000 in
theorem isRack_any (n : Int) (w : World) : Calls Tryz.prog 64 #[.int .i64 n] w fun e w' => e = .returned (.bool (inR n (-3) 3)) ∧ w = w' := by
  go_enter Tryz.func64, Tryz.ntmps64
  go_wp2_with (go_at_call 45; refine (within_any _ _ _ _).mono ?_; rintro e w' ⟨rfl, rfl⟩)
  go_ret
  exact ⟨rfl, rfl⟩
set_option maxHeartbeats 400000 in
theorem isCarrier_any (n : Int) (w : World) : Calls Tryz.prog 62 #[.int .i64 n] w fun e w' => e = .returned (.bool (inR n 1 4)) ∧ w = w' := by
  go_enter Tryz.func62, Tryz.ntmps62
  go_wp2_with (go_at_call 45; refine (within_any _ _ _ _).mono ?_; rintro e w' ⟨rfl, rfl⟩)
  go_ret
  exact ⟨rfl, rfl⟩
set_option maxHeartbeats 400000 in
theorem isDirection_any (d : Int) (w : World) : Calls Tryz.prog 60 #[.int .i64 d] w fun e w' => e = .returned (.bool (dirB d)) ∧ w = w' := by
  go_enter Tryz.func60, Tryz.ntmps60
  go_wp2
  all_goals (go_ret; exact ⟨ret_bool (by simp_all [dirB]), rfl⟩)
set_option maxHeartbeats 400000 in
theorem isBed_any (d : Int) (w : World) : Calls Tryz.prog 89 #[.int .i64 d] w fun e w' => e = .returned (.bool (bedB d)) ∧ w = w' := by
  go_enter Tryz.func89, Tryz.ntmps89
  go_wp2
  all_goals (go_ret; exact ⟨ret_bool (by simp_all [bedB]), rfl⟩)
set_option maxHeartbeats 400000 in
theorem l01Bed_any (d : Int) (w : World) : Calls Tryz.prog 135 #[.int .i64 d] w fun e w' => e = .returned (.bool (bedB d)) ∧ w = w' := by
  have h := show inR d 1 2 = bedB d by rw [Bool.eq_iff_iff, inR_iff, bedB_iff]; omega
  have H := Lib.hid h
  clear h
  go_enter Tryz.func135, Tryz.ntmps135
  go_wp2_with (go_at_call 38; refine (l00In_any _ _ _ _).mono ?_; rintro e w' ⟨rfl, rfl⟩)
  go_ret
  exact ⟨ret_bool H.out, rfl⟩
set_option maxHeartbeats 400000 in
theorem ValidNeedle_any (b a : Int) (w : World) : Calls Tryz.prog 61 #[.agg #[.int .i64 b, .int .i64 a]] w fun e w' => e = .returned (.bool (ndlB b a)) ∧ Below w.heap.size w w' := by
  cases hb : bedB b
  · have H := Lib.hid (show ndlB b a = false by simp [ndlB, hb])
    go_enter Tryz.func61, Tryz.ntmps61
    go_wp2_with (go_at_call 89; refine (isBed_any _ _).mono ?_; rintro e w' ⟨rfl, rfl⟩)
    go_ret
    exact ⟨ret_bool H.out.symm, (Below.refl _ _).alloc (Nat.le_refl _) _⟩
  · have H := Lib.hid (show ndlB b a = inR a 0 23 by simp [ndlB, hb])
    go_enter Tryz.func61, Tryz.ntmps61
    go_wp2_with (first | (go_at_call 89; refine (isBed_any _ _).mono ?_; rintro e w' ⟨rfl, rfl⟩) | (go_at_call 45; refine (within_any _ _ _ _).mono ?_; rintro e w' ⟨rfl, rfl⟩))
    go_ret
    exact ⟨ret_bool H.out.symm, (Below.refl _ _).alloc (Nat.le_refl _) _⟩
def pairB (b1 a1 b2 a2 : Int) : Bool := ndlB b1 a1 && ndlB b2 a2 && b1 != b2
set_option maxHeartbeats 800000 in
theorem isPair_any (b1 a1 b2 a2 : Int) (w : World) : Calls Tryz.prog 63 #[.agg #[.int .i64 b1, .int .i64 a1], .agg #[.int .i64 b2, .int .i64 a2]] w fun e w' => e = .returned (.bool (pairB b1 a1 b2 a2)) ∧ Below w.heap.size w w' := by
  cases h1 : ndlB b1 a1
  · have H := Lib.hid (show pairB b1 a1 b2 a2 = false by simp [pairB, h1])
    go_enter Tryz.func63, Tryz.ntmps63
    go_wp2_with (go_at_call 61; refine (ValidNeedle_any _ _ _).mono ?_; rintro e w1 ⟨rfl, hb⟩)
    go_ret
    exact ⟨ret_bool H.out.symm, (al2 _ _ _).trans (hb.mono (by simp; omega))⟩
  · cases h2 : ndlB b2 a2
    · have H := Lib.hid (show pairB b1 a1 b2 a2 = false by simp [pairB, h2])
      go_enter Tryz.func63, Tryz.ntmps63
      go_wp2_with fail
      refine (ValidNeedle_any _ _ _).mono ?_
      rintro e w1 ⟨rfl, hb⟩
      obtain ⟨hc, hf⟩ := bcell hb
      have hz : w.heap.size + 1 < w1.heap.size := by have := hb.size; simp at this; omega
      go_wp2_with fail
      refine (ValidNeedle_any _ _ _).mono ?_
      rintro e w2 ⟨rfl, hb2⟩
      go_wp2_with fail
      go_ret
      exact ⟨ret_bool H.out.symm, ((al2 _ _ _).trans (hb.mono (by simp; omega))).trans (hb2.mono (by omega))⟩
    · have H := Lib.hid (show pairB b1 a1 b2 a2 = (b1 != b2) by simp [pairB, h1, h2])
      go_enter Tryz.func63, Tryz.ntmps63
      go_wp2_with fail
      refine (ValidNeedle_any _ _ _).mono ?_
      rintro e w1 ⟨rfl, hb⟩
      obtain ⟨hc, hf⟩ := bcell hb
      have hz : w.heap.size + 1 < w1.heap.size := by have := hb.size; simp at this; omega
      go_wp2_with fail
      refine (ValidNeedle_any _ _ _).mono ?_
      rintro e w2 ⟨rfl, hb2⟩
      obtain ⟨hc2, hf2⟩ := bcell hb2
      have hz0 : w.heap.size < w1.heap.size := by omega
      go_wp2_with fail
      go_ret
      exact ⟨ret_bool H.out.symm, ((al2 _ _ _).trans (hb.mono (by simp; omega))).trans (hb2.mono (by omega))⟩
end Go.Proofs.YtgmppfhokfifgaaGreatDoor
