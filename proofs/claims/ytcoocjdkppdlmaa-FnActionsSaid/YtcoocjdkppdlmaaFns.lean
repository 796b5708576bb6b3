/-
  Plain functions on lists of numbers: what the program's and the reference's functions on free words compute. No program in sight.
-/
import Derived.Test.YtcoocjdkppdlmaaBase
namespace Go.Proofs.Ytcoocjdkppdlmaa
set_option maxRecDepth 10000

/-- A number that is no letter on s strands. -/
def badLetter (s k : Int) : Bool := decide (k = 0 ∨ ¬ (1 - s ≤ k ∧ k ≤ s - 1))
def letters (s : Int) (xs : List Int) : Bool := xs.all fun k => !badLetter s k
def okFree (n : Int) (xs : List Int) : Bool := inR n 0 12 && decide (xs.length ≤ 20000) && letters (n + 1) xs
theorem letters_nil (s : Int) : letters s [] = true := rfl
theorem badLetter_yes {s k : Int} (h : k = 0 ∨ ¬ (1 - s ≤ k ∧ k ≤ s - 1)) : badLetter s k = true := by simp only [badLetter, decide_eq_true_eq]; exact h
theorem badLetter_no {s k : Int} (h : k ≠ 0) (h1 : 1 - s ≤ k) (h2 : k ≤ s - 1) : badLetter s k = false := by
  simp only [badLetter, decide_eq_false_iff_not]; omega
theorem badLetter_false {s k : Int} (h : badLetter s k = false) : k ≠ 0 ∧ 1 - s ≤ k ∧ k ≤ s - 1 := by
  simp only [badLetter, decide_eq_false_iff_not] at h; omega
theorem letters_iff {s : Int} {xs : List Int} : letters s xs = true ↔ ∀ j, j < xs.length → badLetter s (gi xs j) = false := by
  simp only [letters, List.all_eq_true, Bool.not_eq_true']
  constructor
  · intro h j hj
    exact h _ (gi_mem hj)
  · intro h x hx
    obtain ⟨j, hj, rfl⟩ := List.getElem_of_mem hx
    rw [← gi_eq hj]
    exact h j hj
theorem letters_false {s : Int} {xs : List Int} {j : Nat} (hj : j < xs.length) (h : badLetter s (gi xs j) = true) : letters s xs = false := by
  rw [← Bool.not_eq_true]
  intro h'
  rw [letters_iff.1 h' j hj] at h
  cases h
theorem letters_mem {s : Int} {xs : List Int} (h : letters s xs = true) : ∀ x ∈ xs, x ≠ 0 ∧ 1 - s ≤ x ∧ x ≤ s - 1 := by
  intro x hx
  simp only [letters, List.all_eq_true, Bool.not_eq_true'] at h
  exact badLetter_false (h x hx)
theorem okFree_parts {n : Int} {xs : List Int} (h : okFree n xs = true) : 0 ≤ n ∧ n ≤ 12 ∧ xs.length ≤ 20000 ∧ letters (n + 1) xs = true := by
  simp only [okFree, Bool.and_eq_true, decide_eq_true_eq, inR_iff] at h
  exact ⟨h.1.1.1, h.1.1.2, h.1.2, h.2⟩
theorem badLetter_not {s k : Int} (h : k ≠ 0) : badLetter s k = !inR k (1 - s) (s - 1) := by
  cases hb : inR k (1 - s) (s - 1)
  · exact badLetter_yes (.inr (inR_out hb))
  · have := inR_iff.1 hb
    exact badLetter_no h this.1 this.2
theorem okFree_mem {n : Int} {xs : List Int} (h : okFree n xs = true) : ∀ x ∈ xs, x ≠ 0 ∧ -12 ≤ x ∧ x ≤ 12 := by
  intro x hx
  have h1 := okFree_parts h
  have h2 := letters_mem h1.2.2.2 x hx
  omega

/-- One letter put to the end of a reduced word, or taken away with the last. -/
def push (out : List Int) (k : Int) : List Int := if out.getLast? = some (-k) then out.dropLast else out ++ [k]
/-- The reduced word. -/
def pushAll (out xs : List Int) : List Int := xs.foldl push out
def red (xs : List Int) : List Int := pushAll [] xs
def inv (xs : List Int) : List Int := (xs.map (- ·)).reverse
theorem pushAll_snoc (out xs : List Int) (k : Int) : pushAll out (xs ++ [k]) = push (pushAll out xs) k := by simp [pushAll]
theorem red_take {xs : List Int} {k : Nat} (h : k < xs.length) : red (xs.take (k + 1)) = push (red (xs.take k)) (gi xs k) := by
  rw [take_gi h]; exact pushAll_snoc _ _ _
theorem push_len (out : List Int) (k : Int) : (push out k).length ≤ out.length + 1 := by
  unfold push; split
  · rw [List.length_dropLast]; omega
  · simp
theorem pushAll_len (out xs : List Int) : (pushAll out xs).length ≤ out.length + xs.length := by
  induction xs generalizing out with
  | nil => simp [pushAll]
  | cons x xs ih => have := ih (push out x); have h := push_len out x; simp only [pushAll, List.foldl_cons, List.length_cons] at this ⊢; omega
theorem red_len (xs : List Int) : (red xs).length ≤ xs.length := by have := pushAll_len [] xs; simpa [red] using this
theorem push_mem {out : List Int} {k x : Int} (h : x ∈ push out k) : x ∈ out ∨ x = k := by
  unfold push at h; split at h
  · exact .inl (List.dropLast_subset _ h)
  · simpa using h
theorem pushAll_mem {out xs : List Int} {x : Int} (h : x ∈ pushAll out xs) : x ∈ out ∨ x ∈ xs := by
  induction xs generalizing out with
  | nil => exact .inl h
  | cons y ys ih =>
    rcases ih h with h | h
    · rcases push_mem h with h | rfl
      · exact .inl h
      · exact .inr List.mem_cons_self
    · exact .inr (List.mem_cons_of_mem _ h)
theorem red_mem {xs : List Int} {x : Int} (h : x ∈ red xs) : x ∈ xs := by simpa using pushAll_mem h
theorem last_gi {xs : List Int} (h : 0 < xs.length) : xs.getLast? = some (gi xs (xs.length - 1)) := by
  rw [List.getLast?_eq_getElem?, gi_some (by omega)]
theorem push_back {out : List Int} {k : Int} (h : 0 < out.length) (he : gi out (out.length - 1) = -k) : push out k = out.dropLast := by
  unfold push; rw [if_pos (by rw [last_gi h, he])]
theorem push_on {out : List Int} {k : Int} (h : out.length = 0 ∨ gi out (out.length - 1) ≠ -k) : push out k = out ++ [k] := by
  unfold push; rw [if_neg ?_]
  intro he
  rcases h with h | h
  · rw [List.eq_nil_of_length_eq_zero h] at he; cases he
  · rcases Nat.eq_zero_or_pos out.length with h0 | h0
    · rw [List.eq_nil_of_length_eq_zero h0] at he; cases he
    · rw [last_gi h0] at he; exact h (Option.some.inj he)
/-- The reduced word of a valid word; nothing of another. -/
def fRed (n : Int) (xs : List Int) : List Int := if okFree n xs = true then red xs else []
theorem fRed_len (n : Int) (xs : List Int) : (fRed n xs).length ≤ xs.length := by
  unfold fRed; split
  · exact red_len xs
  · simp
/-- The byte of a letter. -/
def letterByte (k : Int) : Int := if 0 < k then 96 + k else 64 - k
theorem letterByte_pos {k : Int} (h : 0 < k) : letterByte k = 96 + k := if_pos h
theorem letterByte_neg {k : Int} (h : ¬ 0 < k) : letterByte k = 64 - k := if_neg h
end Go.Proofs.Ytcoocjdkppdlmaa
