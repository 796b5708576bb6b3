/-
  Contracts: the images under a braid (the reference's l05Action, ArtinAction).
-/
import Derived.Test.YtcinnbkhnonijaaArt3
namespace Go.Proofs.Ytcinnbkhnonijaa
set_option maxRecDepth 10000
open Go.RowKit

/-- A row's word acts on the generators up to n. -/
def okRow (n : Nat) (r : List Int) : Prop := r.length ≤ 20000 ∧ ∀ x ∈ r, x ≠ 0 ∧ -(n : Int) ≤ x ∧ x ≤ n
def okRows (n : Nat) (rows : List (List Int)) : Prop := rows.length = n ∧ ∀ j, j < n → okRow n (gl rows j)
def optSS (r : Option (List (List Int))) : List (List Int) := match r with | none => [] | some o => o
theorem okRows_unit (n : Nat) : okRows n (unitL n) := ⟨unitL_len n, fun j hj => by rw [unitL_gl hj]; exact ⟨by simp, by simp; omega⟩⟩
theorem letterRows_row {n j : Nat} {l : Int} (h : j < n) (hl : l ≠ 0) : gl (letterRows n l) j = imgL l ((j : Int) + 1) := by
  have h0 : ab ((j : Int) + 1) = (j : Int) + 1 := by unfold ab; omega
  rw [← imgA_letter (n := n) hl (show (j : Int) + 1 ≠ 0 by omega) (by rw [h0]; omega), imgA, if_pos (by omega), h0, show ((j : Int) + 1 - 1).toNat = j by omega]
theorem im_row {l n : Int} (h0 : l ≠ 0) (h1 : 1 - n ≤ l) (h2 : l ≤ n - 1) : (∀ x ∈ im1 l, x ≠ 0 ∧ -n ≤ x ∧ x ≤ n) ∧ (∀ x ∈ im2 l, x ≠ 0 ∧ -n ≤ x ∧ x ≤ n) := by
  have hk : 1 ≤ ab l ∧ ab l ≤ n - 1 := by unfold ab; omega
  constructor
  · intro x hx
    unfold im1 at hx
    split at hx <;> simp at hx <;> omega
  · intro x hx
    unfold im2 at hx
    split at hx <;> simp at hx <;> omega
theorem imgL_row {l n g : Int} (h0 : l ≠ 0) (h1 : 1 - n ≤ l) (h2 : l ≤ n - 1) (h3 : g ≠ 0 ∧ -n ≤ g ∧ g ≤ n) : ∀ x ∈ imgL l g, x ≠ 0 ∧ -n ≤ x ∧ x ≤ n := by
  obtain ⟨b1, b2⟩ := im_row h0 h1 h2
  intro x hx
  unfold imgL at hx
  split at hx
  · split at hx
    · exact b1 x hx
    · have := b1 _ (inv_mem hx); omega
  · split at hx
    · split at hx
      · exact b2 x hx
      · have := b2 _ (inv_mem hx); omega
    · simp at hx; omega
theorem actW_row {l n : Int} {xs : List Int} (h0 : l ≠ 0) (h1 : 1 - n ≤ l) (h2 : l ≤ n - 1) (h : ∀ x ∈ xs, x ≠ 0 ∧ -n ≤ x ∧ x ≤ n) : ∀ x ∈ actW l xs, x ≠ 0 ∧ -n ≤ x ∧ x ≤ n := fun x hx => by
  have := pushAll_mem hx
  rcases this with this | this
  · simp at this
  · obtain ⟨g, hg, hx⟩ := List.mem_flatMap.1 this
    exact imgL_row h0 h1 h2 (h g hg) x hx
theorem gl_map {rows : List (List Int)} {f : List Int → List Int} {j : Nat} (h : j < rows.length) : gl (rows.map f) j = f (gl rows j) := by rw [gl_eq (by simpa using h), gl_eq h]; simp
theorem okRows_act {l : Int} {n : Nat} {rows : List (List Int)} (h0 : l ≠ 0) (h1 : 1 - (n : Int) ≤ l) (h2 : l ≤ (n : Int) - 1) (h : okRows n rows) (hs : ∀ j, j < n → (actW l (gl rows j)).length ≤ 20000) : okRows n (rows.map (actW l)) :=
  ⟨by rw [List.length_map]; exact h.1, fun j hj => by rw [gl_map (by rw [h.1]; exact hj)]; exact ⟨hs j hj, actW_row h0 h1 h2 (h.2 j hj).2⟩⟩
end Go.Proofs.Ytcinnbkhnonijaa
