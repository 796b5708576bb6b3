/-
  Contracts: all reductions (the program's handleForm, the reference's l06Form), HandleForm, HandleTrivial, SignOfBraid of both.
-/
import Derived.Test.YtcoocjdkppdlmaaHred
namespace Go.Proofs.Ytcoocjdkppdlmaa
set_option maxRecDepth 10000
open Go.RowKit

theorem hForm_out {xs : List Int} {b : Int} (h : inR b 0 5000 = false) : hForm xs b = ([], 0, 2) := by simp [hForm, h]
theorem hForm_in {xs : List Int} {b : Nat} (h : b ≤ 5000) : hForm xs (b : Int) = formOf (hLoop b xs) := by
  rw [hForm, if_pos (inR_yes (by omega) (by omega))]; simp
theorem firstT_f {xs : List Int} {t : Nat} (h : firstT xs = some t) : t < xs.length ∧ hFn xs t < t ∧ hF xs = (hFn xs t : Int) ∧ hT xs = (t : Int) ∧ hOk xs = true := by
  obtain ⟨h1, h2, _⟩ := firstT_is h
  have := hTo_bd xs t
  refine ⟨h1, by unfold hFn; omega, ?_, ?_, ?_⟩
  · simp only [hF, h, hFn]; omega
  · simp only [hT, h]
  · simp [hOk, h]
theorem hLoop_id (b : Nat) (xs : List Int) : hLoop b xs = (hLoop (b - 0) xs).map fun p => (p.1, p.2 + 0) := by
  rw [Nat.sub_zero]; cases hLoop b xs <;> rfl
theorem hLoop_next {b n : Nat} {xs ys : List Int} {t : Nat} (h : hLoop b xs = (hLoop (b - n) ys).map fun p => (p.1, p.2 + n)) (hn : n < b) (hf : firstT ys = some t) (h2 : (hRed ys (hFn ys t) t).length ≤ 4000) :
    hLoop b xs = (hLoop (b - (n + 1)) (hRed ys (hFn ys t) t)).map fun p => (p.1, p.2 + (n + 1)) := by
  obtain ⟨m, hm⟩ : ∃ m, b - n = m + 1 := ⟨b - n - 1, by omega⟩
  rw [h, hm, hLoop_on hf h2, show b - (n + 1) = m by omega, Option.map_map]
  congr 1
  funext p
  simp only [Function.comp_apply]
  congr 1
  omega
theorem hLoop_end {b n : Nat} {xs ys : List Int} (h : hLoop b xs = (hLoop (b - n) ys).map fun p => (p.1, p.2 + n)) (hf : firstT ys = none) : formOf (hLoop b xs) = (ys, (n : Int), 0) := by
  rw [h, hLoop_none hf]; simp [formOf]
theorem hLoop_stop {b n : Nat} {xs ys : List Int} {t : Nat} (h : hLoop b xs = (hLoop (b - n) ys).map fun p => (p.1, p.2 + n)) (hf : firstT ys = some t) (hc : b ≤ n ∨ ¬ (hRed ys (hFn ys t) t).length ≤ 4000) : formOf (hLoop b xs) = ([], 0, 5) := by
  rcases hc with hc | hc
  · rw [h, show b - n = 0 by omega, hLoop_zero hf]; rfl
  · rw [h, hLoop_long hf hc]; rfl
end Go.Proofs.Ytcoocjdkppdlmaa
