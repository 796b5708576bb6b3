/-
  Contracts: LeastWidth and KindCounts of the program and of the reference.
-/
import Derived.Test.YtgmppfhokfifgaaPo3
import Derived.Test.YtgmppfhokfifgaaBase
import Derived.Test.YtgmppfhokfifgaaMm
import Derived.Lib.QuietBelow
namespace Go.Proofs.Ytgmppfhokfifgaa
set_option maxRecDepth 10000
open Go.RowKit

theorem gi_set_ne {xs : List Int} {k j : Nat} (h : k ≠ j) (x : Int) : gi (xs.set k x) j = gi xs j := by simp [gi, List.getD, h]
theorem op_bds {o : List Int} (h : opB o = true) : (1 ≤ gi o 0 ∧ gi o 0 ≤ 9) ∧ (-1 ≤ gi o 1 ∧ gi o 1 ≤ 1) ∧ (0 ≤ gi o 2 ∧ gi o 2 ≤ 2) ∧ (0 ≤ gi o 3 ∧ gi o 3 ≤ 23) ∧ (0 ≤ gi o 4 ∧ gi o 4 ≤ 2) ∧ (0 ≤ gi o 5 ∧ gi o 5 ≤ 23) ∧ (0 ≤ gi o 6 ∧ gi o 6 ≤ 4) ∧ (-3 ≤ gi o 7 ∧ gi o 7 ≤ 3) := by
  unfold opB at h
  generalize gi o 0 = k at *
  generalize gi o 1 = d at *
  generalize gi o 2 = fb at *
  generalize gi o 3 = fa at *
  generalize gi o 4 = tb at *
  generalize gi o 5 = ta at *
  generalize gi o 6 = c at *
  generalize gi o 7 = r at *
  unfold vOp at h
  split at h
  · simp only [Bool.and_eq_true, dirB_iff, ndlB_iff, inR_iff, beq_iff_eq] at h
    omega
  split at h
  · simp only [Bool.and_eq_true, pairB, ndlB_iff, beq_iff_eq] at h
    omega
  split at h
  · simp only [Bool.and_eq_true, pairB, dirB_iff, ndlB_iff, inR_iff, beq_iff_eq] at h
    omega
  split at h
  · simp only [Bool.and_eq_true, ndlB_iff, beq_iff_eq] at h
    omega
  split at h
  · simp only [Bool.and_eq_true, inR_iff, beq_iff_eq] at h
    omega
  split at h
  · simp only [Bool.and_eq_true, dirB_iff, inR_iff, beq_iff_eq] at h
    omega
  split at h
  · simp only [Bool.and_eq_true, inR_iff, beq_iff_eq] at h
    omega
  · cases h
theorem okOps_parts {n : Int} {os : List (List Int)} (h : okOps n os = true) : (1 ≤ n ∧ n ≤ 24) ∧ os.length ≤ 1500 ∧ ∀ j, j < os.length → opB (gl os j) = true ∧ gi (gl os j) 3 < n ∧ gi (gl os j) 5 < n := by
  simp only [okOps, Bool.and_eq_true, decide_eq_true_eq] at h
  refine ⟨inR_iff.1 h.1.1, h.1.2, fun j hj => ?_⟩
  have := all_iff.1 h.2 j hj
  simpa [fitB] using this
end Go.Proofs.Ytgmppfhokfifgaa
