/-
  Contracts of the small checks: directions, carriers, racks, beds, needles.
-/
import Derived.Test.YtcoocjdkppdlmaaBase
import Derived.Lib.QuietBelow
namespace Go.Proofs.Ytcoocjdkppdlmaa
set_option maxRecDepth 10000
open Go.RowKit Go.Sort

def dirB (d : Int) : Bool := d == 1 || d == -1
def bedB (b : Int) : Bool := b == 1 || b == 2
def ndlB (b a : Int) : Bool := bedB b && inR a 0 23
theorem dirB_iff {d : Int} : dirB d = true ↔ d = 1 ∨ d = -1 := by simp [dirB]
theorem bedB_iff {b : Int} : bedB b = true ↔ b = 1 ∨ b = 2 := by simp [bedB]
theorem ndlB_iff {b a : Int} : ndlB b a = true ↔ (b = 1 ∨ b = 2) ∧ 0 ≤ a ∧ a ≤ 23 := by simp [ndlB, bedB_iff, inR_iff]

theorem quiet_same {P : Program} {f : FuncId} {args : Array Value} {w : World} {v : Value} (h : Calls P f args w fun e w' => e = .returned v ∧ w = w') :
    Calls P f args w fun e w'' => e = .returned v ∧ ∃ m, w'' = w.drewN m := h.mono fun _ _ ⟨he, hw⟩ => ⟨he, 0, hw.symm⟩
theorem quiet_same_at {P : Program} {f : FuncId} {args : Array Value} {w : World} {a n : Nat} {v : Value} (h : Calls P f args (w.drewN (a + n)) fun e w' => e = .returned v ∧ w.drewN (a + n) = w') :
    Calls P f args (w.drewN (a + n)) fun e w'' => e = .returned v ∧ ∃ m, w'' = w.drewN (a + m) := h.mono fun _ _ ⟨he, hw⟩ => ⟨he, n, hw.symm⟩
theorem quiet_same_on {P : Program} {f : FuncId} {args : Array Value} {w : World} {n : Nat} {v : Value} (h : Calls P f args (w.drewN n) fun e w' => e = .returned v ∧ w.drewN n = w') :
    Calls P f args (w.drewN n) fun e w'' => e = .returned v ∧ ∃ m, w'' = w.drewN m := h.mono fun _ _ ⟨he, hw⟩ => ⟨he, n, hw.symm⟩

/-- A contract that returns a Bool whose value is known. -/
theorem is_same {P : Program} {f : FuncId} {args : Array Value} {w : World} {x b : Bool} (hb : x = b) (h : Calls P f args w fun e w' => e = .returned (.bool x) ∧ w = w') :
    Calls P f args w fun e w' => e = .returned (.bool b) ∧ w = w' := by rw [← hb]; exact h
theorem is_below {P : Program} {f : FuncId} {args : Array Value} {w : World} {x b : Bool} (hb : x = b) (h : Calls P f args w fun e w' => e = .returned (.bool x) ∧ Below w.heap.size w w') :
    Calls P f args w fun e w' => e = .returned (.bool b) ∧ Below w.heap.size w w' := by rw [← hb]; exact h
theorem Calls.regrown_same {P : Program} {f : FuncId} {args : Array Value} {w : World} {d : Nat} {os : Array Obj} {v : Value}
    (h : Calls P f args (grow (redrawn w d) os) fun e w' => e = .returned v ∧ grow (redrawn w d) os = w') : Calls P f args (grow (redrawn w d) os) fun e w'' => e = .returned v ∧ ∃ p : Regrown, w'' = grow (redrawn w p.d) p.os :=
  h.mono fun _ _ ⟨he, hw⟩ => ⟨he, ⟨d, os⟩, hw.symm⟩

set_option maxHeartbeats 400000 in
theorem within_any (a b c : Int) (w : World) : Calls Try.prog 98 #[.int .i64 a, .int .i64 b, .int .i64 c] w fun e w' => e = .returned (.bool (inR a b c)) ∧ w = w' := by
  go_enter Try.func98, Try.ntmps98
  go_wp2
  all_goals (go_ret; exact ⟨ret_bool (by simp_all [inR] <;> omega), rfl⟩)
set_option maxHeartbeats 400000 in
theorem l00In_any (a b c : Int) (w : World) : Calls Try.prog 82 #[.int .i64 a, .int .i64 b, .int .i64 c] w fun e w' => e = .returned (.bool (inR a b c)) ∧ w = w' := by
  go_enter Try.func82, Try.ntmps82
  go_wp2
  all_goals (go_ret; exact ⟨ret_bool (by simp_all [inR] <;> omega), rfl⟩)
set_option maxHeartbeats 400000 in
theorem isStrands_any (n : Int) (w : World) : Calls Try.prog 77 #[.int .i64 n] w fun e w' => e = .returned (.bool (inR n 0 12)) ∧ w = w' := by
  go_enter Try.func77, Try.ntmps77
  go_wp2_with (go_at_call 98; refine (within_any _ _ _ _).mono ?_; rintro e w' ⟨rfl, rfl⟩)
  go_ret
  exact ⟨rfl, rfl⟩
end Go.Proofs.Ytcoocjdkppdlmaa
