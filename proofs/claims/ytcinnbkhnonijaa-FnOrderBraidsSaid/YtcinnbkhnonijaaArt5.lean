/-
  Contracts: ArtinAction of the reference; the action's bounds.
-/
import Derived.Test.YtcinnbkhnonijaaArt4
namespace Go.Proofs.Ytcinnbkhnonijaa
set_option maxRecDepth 10000
open Go.RowKit

theorem okBr_letters {n : Nat} {xs : List Int} (h : okBr n xs = true) : ∀ x ∈ xs, x ≠ 0 ∧ 1 - (n : Int) ≤ x ∧ x ≤ (n : Int) - 1 := letters_mem (okBr_parts h).2.2.2
theorem actGo_len {word ls r : List Int} (h : actGo word ls = some r) (hw : word.length ≤ 20000) : r.length ≤ 20000 := by
  induction ls generalizing word with
  | nil => cases h; exact hw
  | cons l t ih =>
    rw [actGo] at h
    by_cases hh : (actW l word).length ≤ 20000
    · rw [if_pos hh] at h; exact ih h hh
    · rw [if_neg hh] at h; cases h
theorem artUp_lenSS {ls : List Int} {n : Nat} {rows : List (List Int)} (h : artUp ls n = some rows) : lenSS rows ≤ 20000 * n := by
  induction n generalizing rows with
  | zero => cases h; simp [lenSS]
  | succ n ih =>
    cases h1 : artUp ls n with
    | none => rw [artUp_none h1 (Nat.le_succ n)] at h; cases h
    | some r1 =>
      cases h2 : actGo [(n : Int) + 1] ls with
      | none => rw [artUp_off h2] at h; cases h
      | some r2 =>
        rw [artUp_on h1 h2] at h
        cases h
        rw [lenSS_snoc]
        have := ih h1
        have := actGo_len h2 (by simp)
        omega
theorem artA_len (s : Int) (xs : List Int) : (artA s xs).1.length + lenSS (artA s xs).1 ≤ 300000 := by
  unfold artA
  split
  · rename_i h
    obtain ⟨p1, p2, p3, p4⟩ := okBr_parts h
    split
    · cases h1 : artUp xs s.toNat with
      | none => simp [artOf, lenSS]
      | some o =>
        have := artUp_lenSS h1
        have := artUp_len h1
        simp only [artOf]
        omega
    · simp [lenSS]
  · simp [lenSS]
end Go.Proofs.Ytcinnbkhnonijaa
