/-
  The main letter of a braid word: the plain law and the contracts.
-/
import Derived.Test.YtcoocjdkppdlmaaBrOk
namespace Go.Proofs.Ytcoocjdkppdlmaa
set_option maxRecDepth 10000
open Go.RowKit

def ab (x : Int) : Int := x.natAbs
def mainStep (m x : Int) : Int := if m = 0 ∨ ab x < ab m then x else m
def mainL (xs : List Int) : Int := xs.foldl mainStep 0
def pureL (xs : List Int) : Bool := !xs.isEmpty && xs.all fun y => y != -mainL xs
/-- The value that is told: the main letter, or 0. -/
def mainV (xs : List Int) : Int := if pureL xs = true then mainL xs else 0
theorem mainL_append (p : List Int) (x : Int) : mainL (p ++ [x]) = mainStep (mainL p) x := by simp [mainL]
theorem mainL_min {p : List Int} (h0 : ∀ x ∈ p, x ≠ 0) : (p = [] ∧ mainL p = 0) ∨ (mainL p ≠ 0 ∧ mainL p ∈ p ∧ ∀ x ∈ p, ab (mainL p) ≤ ab x) := by
  suffices h : ∀ (n : Nat) (p : List Int), p.length = n → (∀ x ∈ p, x ≠ 0) → (p = [] ∧ mainL p = 0) ∨ (mainL p ≠ 0 ∧ mainL p ∈ p ∧ ∀ x ∈ p, ab (mainL p) ≤ ab x) from h _ p rfl h0
  intro n
  induction n with
  | zero => intro p hp _; left; rw [List.length_eq_zero_iff.1 hp]; exact ⟨rfl, rfl⟩
  | succ n ih =>
    intro p hp h0
    right
    obtain ⟨q, x, rfl⟩ : ∃ q x, p = q ++ [x] := ⟨p.dropLast, p.getLast (by intro e; simp [e] at hp), (List.dropLast_concat_getLast _).symm⟩
    have hx := h0 x (by simp)
    have hq : q.length = n := by simpa using hp
    rw [mainL_append]
    unfold mainStep
    rcases ih q hq (fun y hy => h0 y (by simp [hy])) with ⟨e, h⟩ | ⟨h1, h2, h3⟩
    · rw [if_pos (.inl h)]
      refine ⟨hx, by simp, fun y hy => ?_⟩
      rw [e] at hy
      simp at hy
      rw [hy]; exact Int.le_refl _
    · split
      · rename_i hc
        have hc : ab x < ab (mainL q) := by rcases hc with hc | hc; exact absurd hc h1; exact hc
        refine ⟨hx, by simp, fun y hy => ?_⟩
        rw [List.mem_append] at hy
        rcases hy with hy | hy
        · have := h3 y hy; omega
        · simp at hy; rw [hy]; exact Int.le_refl _
      · rename_i hc
        refine ⟨h1, by simp [h2], fun y hy => ?_⟩
        rw [List.mem_append] at hy
        rcases hy with hy | hy
        · exact h3 y hy
        · simp at hy; rw [hy]; omega
theorem pureL_new {p : List Int} {x : Int} (h0 : ∀ y ∈ p, y ≠ 0) (hx : x ≠ 0) (hc : mainL p = 0 ∨ ab x < ab (mainL p)) : pureL (p ++ [x]) = true := by
  have hm : mainL (p ++ [x]) = x := by rw [mainL_append, mainStep, if_pos hc]
  simp only [pureL, hm, Bool.and_eq_true, List.all_eq_true, bne_iff_ne, ne_eq]
  refine ⟨by simp, fun y hy e => ?_⟩
  rw [List.mem_append] at hy
  rcases hy with hy | hy
  · rcases mainL_min h0 with ⟨e1, _⟩ | ⟨h1, _, h3⟩
    · rw [e1] at hy; cases hy
    · have := h3 y hy
      rcases hc with hc | hc
      · exact h1 hc
      · subst e; unfold ab at *; omega
  · simp at hy; omega
theorem pureL_mixed {p : List Int} {x : Int} (hc : ¬ (mainL p = 0 ∨ ab x < ab (mainL p))) (he : x = -mainL p) : pureL (p ++ [x]) = false := by
  have hm : mainL (p ++ [x]) = mainL p := by rw [mainL_append, mainStep, if_neg hc]
  unfold pureL
  rw [hm]
  have : ((p ++ [x]).all fun y => y != -mainL p) = false := by rw [List.all_append]; simp [← he]
  rw [this]; simp
theorem pureL_same {p : List Int} {x : Int} (hc : ¬ (mainL p = 0 ∨ ab x < ab (mainL p))) (he : ¬ x = -mainL p) : pureL (p ++ [x]) = pureL p := by
  have hm : mainL (p ++ [x]) = mainL p := by rw [mainL_append, mainStep, if_neg hc]
  have hp : p ≠ [] := by intro e; apply hc; left; rw [e]; rfl
  have hx : (x != -mainL p) = true := by simpa using he
  unfold pureL
  rw [hm, List.all_append]
  simp only [List.all_cons, List.all_nil, hx, Bool.and_true]
  cases p with
  | nil => exact absurd rfl hp
  | cons a l => rfl
set_option maxHeartbeats 400000 in
theorem size_any (x : Int) (w : World) (h1 : -1000 ≤ x) (h2 : x ≤ 1000) : Calls Try.prog 53 #[.int .i64 x] w fun e w' => e = .returned (.int .i64 (ab x)) ∧ w = w' := by
  go_enter Try.func53, Try.ntmps53
  go_wp2
  all_goals (go_ret; exact ⟨ret_int (by unfold ab; omega), rfl⟩)
set_option maxHeartbeats 400000 in
theorem l03Abs_any (x : Int) (w : World) (h1 : -1000 ≤ x) (h2 : x ≤ 1000) : Calls Try.prog 102 #[.int .i64 x] w fun e w' => e = .returned (.int .i64 (ab x)) ∧ w = w' := by
  go_enter Try.func102, Try.ntmps102
  go_wp2
  all_goals (go_ret; exact ⟨ret_int (by unfold ab; omega), rfl⟩)
end Go.Proofs.Ytcoocjdkppdlmaa
