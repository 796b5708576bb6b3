/-
  Contracts of the laws' own helpers on []int64: toInt64S copies, eqInt64S compares, markInt64S writes a count, heldInt64S reads it.
-/
import Derived.Test.YtgmppfhokfifgaaGreatDoorBase
namespace Go.Proofs.YtgmppfhokfifgaaGreatDoor
set_option maxRecDepth 10000
open Go.RowKit

/-- What toInt64S has written after k rounds. -/
def filled (xs : List Int) (k : Nat) : List Int := xs.take k ++ List.replicate (xs.length - k) 0
theorem filled_len (xs : List Int) (k : Nat) (h : k ≤ xs.length) : (filled xs k).length = xs.length := by simp [filled]; omega
theorem filled_zero (xs : List Int) : filled xs 0 = List.replicate xs.length 0 := by simp [filled]
theorem filled_all (xs : List Int) : filled xs xs.length = xs := by simp [filled]
theorem filled_set (xs : List Int) (k : Nat) (h : k < xs.length) : (filled xs k).set k (gi xs k) = filled xs (k + 1) := by
  unfold filled
  have hl : (xs.take k).length = k := by simp; omega
  rw [List.set_append_right _ _ (by omega), hl, Nat.sub_self]
  obtain ⟨m, hm⟩ : ∃ m, xs.length - k = m + 1 := ⟨xs.length - k - 1, by omega⟩
  rw [hm, List.replicate_succ, List.set_cons_zero, take_gi h, List.append_assoc, show xs.length - (k + 1) = m from by omega]
  rfl

/-- What markInt64S leaves: the numbers from k on. -/
def countFrom (k : Int) : Nat → List Int
  | 0 => []
  | n + 1 => countFrom k n ++ [k + n]
theorem countFrom_len (k : Int) (n : Nat) : (countFrom k n).length = n := by
  induction n with
  | zero => rfl
  | succ n ih => simp [countFrom, ih]
theorem countFrom_gi (k : Int) (n j : Nat) (h : j < n) : gi (countFrom k n) j = k + j := by
  induction n with
  | zero => omega
  | succ n ih =>
    unfold gi countFrom
    rw [List.getD_eq_getElem?_getD]
    by_cases hj : j < n
    · rw [List.getElem?_append_left (by rw [countFrom_len]; exact hj), ← List.getD_eq_getElem?_getD]
      exact ih hj
    · obtain rfl : j = n := by omega
      rw [List.getElem?_append_right (by rw [countFrom_len]; exact Nat.le_refl _), countFrom_len]
      simp
/-- A list whose first k elements have been marked. -/
def marked (c : Int) (xs : List Int) (k : Nat) : List Int := countFrom c k ++ xs.drop k
theorem marked_len (c : Int) (xs : List Int) (k : Nat) (h : k ≤ xs.length) : (marked c xs k).length = xs.length := by simp [marked, countFrom_len]; omega
theorem marked_zero (c : Int) (xs : List Int) : marked c xs 0 = xs := rfl
theorem marked_all (c : Int) (xs : List Int) : marked c xs xs.length = countFrom c xs.length := by simp [marked]
theorem marked_set (c : Int) (xs : List Int) (k : Nat) (h : k < xs.length) : (marked c xs k).set k (c + k) = marked c xs (k + 1) := by
  unfold marked
  rw [List.set_append_right _ _ (by rw [countFrom_len]; exact Nat.le_refl _), countFrom_len, Nat.sub_self, drop_gi h, List.set_cons_zero]
  simp [countFrom]

end Go.Proofs.YtgmppfhokfifgaaGreatDoor
