/-
  Contracts: HandleForm, HandleTrivial, SignOfBraid of the program and of the reference.
-/
import Derived.Test.YtcoocjdkppdlmaaHform
namespace Go.Proofs.Ytcoocjdkppdlmaa
set_option maxRecDepth 10000
open Go.RowKit

theorem hLoop_lt {b : Nat} {xs : List Int} {p : List Int × Nat} (h : hLoop b xs = some p) (hl : Lt xs) : Lt p.1 := by
  induction b generalizing xs p with
  | zero =>
    cases hf : firstT xs with
    | none => rw [hLoop_none hf] at h; cases h; exact hl
    | some t => rw [hLoop_zero hf] at h; cases h
  | succ b ih =>
    cases hf : firstT xs with
    | none => rw [hLoop_none hf] at h; cases h; exact hl
    | some t =>
      obtain ⟨ht, hft, -⟩ := firstT_f hf
      by_cases h2 : (hRed xs (hFn xs t) t).length ≤ 4000
      · rw [hLoop_on hf h2] at h
        cases hq : hLoop b (hRed xs (hFn xs t) t) with
        | none => rw [hq] at h; cases h
        | some q => rw [hq] at h; cases h; exact ih (p := q) hq (hRed_lt hl hft ht)
      · rw [hLoop_long hf h2] at h; cases h
theorem hForm_lt {xs : List Int} {b : Int} (h : Lt xs) : Lt (hForm xs b).1 := by
  unfold hForm
  split
  · cases hq : hLoop b.toNat xs with
    | none => intro x hx; simp [formOf] at hx
    | some p => exact hLoop_lt hq h
  · intro x hx; simp at hx
/-- What HandleForm returns. -/
def hfA (s : Int) (xs : List Int) (b : Int) : List Int × Int × Int := if okBr s xs = true then hForm xs b else ([], 0, 1)
theorem hfA_no {s : Int} {xs : List Int} {b : Int} (h : okBr s xs = false) : hfA s xs b = ([], 0, 1) := by simp [hfA, h]
theorem hfA_yes {s : Int} {xs : List Int} {b : Int} (h : okBr s xs = true) : hfA s xs b = hForm xs b := by simp [hfA, h]
theorem hfA_len (s : Int) (xs : List Int) (b : Int) : (hfA s xs b).1.length ≤ 4000 := by
  cases h : okBr s xs
  · rw [hfA_no h]; simp
  · rw [hfA_yes h]; exact hForm_len _ _ (by have := (okBr_parts h).2.2.1; omega)
theorem hfA_lt (s : Int) (xs : List Int) (b : Int) : Lt (hfA s xs b).1 := by
  cases h : okBr s xs
  · rw [hfA_no h]; intro x hx; simp at hx
  · rw [hfA_yes h]; exact hForm_lt (okBr_mem h)
theorem okBr_lt {s : Int} {xs : List Int} (h : okBr s xs = true) : Lt xs := okBr_mem h
theorem formOf_c (r : Option (List Int × Nat)) : (formOf r).2.2 = 0 ∨ (formOf r).2.2 = 5 ∧ (formOf r).1 = [] := by cases r <;> simp [formOf]
theorem hForm_c (xs : List Int) (b : Int) : (hForm xs b).2.2 = 0 ∨ (0 < (hForm xs b).2.2 ∧ (hForm xs b).2.2 ≤ 12) ∧ (hForm xs b).1 = [] := by
  unfold hForm
  split
  · rcases formOf_c (hLoop b.toNat xs) with h | ⟨h, h2⟩
    · exact .inl h
    · exact .inr ⟨by omega, h2⟩
  · simp
theorem hfA_c (s : Int) (xs : List Int) (b : Int) : (hfA s xs b).2.2 = 0 ∨ (0 < (hfA s xs b).2.2 ∧ (hfA s xs b).2.2 ≤ 12) ∧ (hfA s xs b).1 = [] := by
  cases h : okBr s xs
  · rw [hfA_no h]; simp
  · rw [hfA_yes h]; exact hForm_c _ _
/-- The sign of a word without handles. -/
def sgn (xs : List Int) : Int := if 0 < mainV xs then 1 else if mainV xs < 0 then -1 else 0
theorem sgn_nil : sgn [] = 0 := rfl
theorem mainV_lt {xs : List Int} (h : Lt xs) : -11 ≤ mainV xs ∧ mainV xs ≤ 11 ∧ (pureL xs = true → mainV xs ≠ 0) := by
  rcases mainL_min (p := xs) (fun x hx => (h x hx).1) with ⟨h1, h2⟩ | ⟨h1, h2, _⟩
  · subst h1; simp [mainV, pureL]
  · have := h _ h2
    unfold mainV
    split
    · exact ⟨this.2.1, this.2.2, fun _ => h1⟩
    · rename_i hp; exact ⟨by omega, by omega, fun h => absurd h hp⟩
def trivB (f : List Int × Int × Int) : Bool := f.2.2 == 0 && (f.1.length : Int) == 0
end Go.Proofs.Ytcoocjdkppdlmaa
