/-
  Contracts: the word behind the reduction of a handle (the program's withoutHandle, the reference's l06Reduce).
-/
import Derived.Test.YtcoocjdkppdlmaaCore
import Derived.Test.YtcoocjdkppdlmaaMain2
namespace Go.Proofs.Ytcoocjdkppdlmaa
set_option maxRecDepth 10000
open Go.RowKit

theorem sl_new (w : World) (ys : List Int) : Sl (w.alloc (.cells (vals ys).toArray 2)) (w.heap.size + 1) (.slice (some ⟨w.heap.size, 0, none⟩) ys.length ys.length) ys ∨ maxLen < ys.length := by
  by_cases h : ys.length ≤ maxLen
  · left
    refine ⟨_, _, rfl, Nat.le_refl _, h, by simp, fun hp => ⟨w.heap.size, 0, rfl, by omega, fun k hk => ?_⟩⟩
    rw [World.cell?_alloc_new]
    simp [vals, gi_some hk]
  · right; omega
theorem sl_three (w : World) (a b c : Int) : Sl (w.alloc (.cells #[.int .i64 a, .int .i64 b, .int .i64 c] 2)) (w.heap.size + 1) (.slice (some ⟨w.heap.size, 0, none⟩) 3 3) [a, b, c] := by
  rcases sl_new w [a, b, c] with h | h
  · exact h
  · simp [maxLen] at h
/-- What has been written when the letters ahead of place m have been seen. -/
def hPr (xs : List Int) (f m : Nat) : List Int := xs.take f ++ ((xs.drop (f + 1)).take (m - (f + 1))).flatMap (hSub (ab (gi xs f)) (sg (gi xs f)))
theorem hPr_zero (xs : List Int) (f : Nat) : hPr xs f (f + 1) = xs.take f := by simp [hPr]
theorem hPr_succ {xs : List Int} {f m : Nat} (h : f + 1 ≤ m) (hm : m < xs.length) : hPr xs f (m + 1) = hPr xs f m ++ hSub (ab (gi xs f)) (sg (gi xs f)) (gi xs m) := by
  have h1 : m - (f + 1) < (xs.drop (f + 1)).length := by simp; omega
  have h2 : gi (xs.drop (f + 1)) (m - (f + 1)) = gi xs m := by
    rw [gi_eq h1, gi_eq hm, List.getElem_drop]
    congr 1
    omega
  rw [hPr, show m + 1 - (f + 1) = (m - (f + 1)) + 1 by omega, take_gi h1, h2, List.flatMap_append, ← List.append_assoc]
  simp [hPr]
theorem hPr_all {xs : List Int} {f t : Nat} (_ : f < t) : hPr xs f t ++ xs.drop (t + 1) = hRed xs f t := by simp [hPr, hRed, hMid, Nat.sub_sub]
theorem hPr_len {xs : List Int} {f m : Nat} (hf : f < m) (hm : m ≤ xs.length) : (hPr xs f m).length ≤ 3 * xs.length := by
  have h := flat_len (ab (gi xs f)) (sg (gi xs f)) ((xs.drop (f + 1)).take (m - (f + 1)))
  have h2 : ((xs.drop (f + 1)).take (m - (f + 1))).length ≤ m - (f + 1) := by simp; omega
  simp only [hPr, List.length_append, List.length_take]
  omega
theorem hSub_yes {j e k : Int} (h : ab k = j + 1) : hSub j e k = [-e * (j + 1), sg k * j, e * (j + 1)] := by rw [hSub, if_pos h]
theorem hSub_no {j e k : Int} (h : ¬ ab k = j + 1) : hSub j e k = [k] := by rw [hSub, if_neg h]
end Go.Proofs.Ytcoocjdkppdlmaa
