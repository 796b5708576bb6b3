/-
  Contracts: the generators and the images under a letter (the reference's l05Unit, l05Letter).
-/
import Derived.Test.YtcinnbkhnonijaaAct3
import Derived.Test.YtcinnbkhnonijaaArt
namespace Go.Proofs.Ytcinnbkhnonijaa
set_option maxRecDepth 10000
open Go.RowKit

theorem ab_pos' {x : Int} (h : x ≠ 0) : 0 < ab x := by unfold ab; omega
def unitL (n : Nat) : List (List Int) := (List.range n).map fun (i : Nat) => [(i : Int) + 1]
theorem unitL_len (n : Nat) : (unitL n).length = n := by simp [unitL]
theorem unitL_succ (n : Nat) : unitL (n + 1) = unitL n ++ [[(n : Int) + 1]] := by simp [unitL, List.range_succ]
theorem unitL_gl {n j : Nat} (h : j < n) : gl (unitL n) j = [(j : Int) + 1] := by rw [gl_eq (by rw [unitL_len]; exact h)]; simp [unitL]
def letterRows (n : Nat) (l : Int) : List (List Int) := ((unitL n).set (ab l - 1).toNat (im1 l)).set (ab l).toNat (im2 l)
theorem letterRows_len (n : Nat) (l : Int) : (letterRows n l).length = n := by simp [letterRows, unitL_len]
theorem letterRows_gl {n j : Nat} {l : Int} (h : j < n) (hl : l ≠ 0) : gl (letterRows n l) j = if (j : Int) + 1 = ab l then im1 l else if (j : Int) = ab l then im2 l else [(j : Int) + 1] := by
  have hk : 0 < ab l := ab_pos' hl
  have h0 := unitL_gl h
  rw [gl_eq (by rw [unitL_len]; exact h)] at h0
  rw [gl_eq (by rw [letterRows_len]; exact h)]
  simp only [letterRows, List.getElem_set]
  by_cases h1 : (ab l).toNat = j
  · rw [if_pos h1, if_neg (by omega), if_pos (by omega)]
  · rw [if_neg h1]
    by_cases h2 : (ab l - 1).toNat = j
    · rw [if_pos h2, if_pos (by omega)]
    · rw [if_neg h2, if_neg (by omega), if_neg (by omega), h0]
theorem imgA_letter {n : Nat} {l g : Int} (hl : l ≠ 0) (hg : g ≠ 0) (hn : ab g ≤ n) : imgA (letterRows n l) g = imgL l g := by
  have hg0 := ab_pos' hg
  have hj : (ab g - 1).toNat < n := by omega
  have hgl := letterRows_gl hj hl
  have e : (((ab g - 1).toNat : Nat) : Int) = ab g - 1 := by omega
  rw [e] at hgl
  unfold imgA imgL
  rw [hgl]
  by_cases h1 : ab g = ab l
  · rw [if_pos h1, if_pos (show ab g - 1 + 1 = ab l by omega)]
  · rw [if_neg h1, if_neg (show ¬ ab g - 1 + 1 = ab l by omega)]
    by_cases h2 : ab g = ab l + 1
    · rw [if_pos h2, if_pos (show ab g - 1 = ab l by omega)]
    · rw [if_neg h2, if_neg (show ¬ ab g - 1 = ab l by omega)]
      have h3 : ab g - 1 + 1 = ab g := by omega
      rw [h3]
      by_cases h4 : 0 < g
      · rw [if_pos h4, show ab g = g by unfold ab; omega]
      · rw [if_neg h4, show inv [ab g] = [-ab g] by simp [inv], show -ab g = g by unfold ab; omega]
theorem set_below_ {B : Nat} {w w1 : World} {p : Addr} {x : Value} (hp : B ≤ p.block) (h : Below B w w1) : Below B w (w1.setCell p x) :=
  ⟨h.os, h.tape, h.output, by simpa [World.setCell] using h.size, fun b hb => by rw [Below.heap_setCell _ _ _ _ (by omega)]; exact h.block b hb⟩
theorem ow_lit3 (w : World) (a b c : Int) : Ow (w.alloc (.cells #[.int .i64 a, .int .i64 b, .int .i64 c] 2)) w.heap.size (w.alloc (.cells #[.int .i64 a, .int .i64 b, .int .i64 c] 2)).heap.size (.slice (some ⟨w.heap.size, 0, none⟩) 3 3) [a, b, c] :=
  ⟨⟨by simp [vals], .inr ⟨w.heap.size, 3, #[.int .i64 a, .int .i64 b, .int .i64 c], rfl, Nat.le_refl _, alloc_at_ _ _, Nat.le_refl _, by simp [maxLen], rfl, rfl⟩⟩, fun g hg => by simp [Value.ownBlock] at hg; subst hg; rw [World.size_alloc]; exact Nat.lt_succ_self _⟩
end Go.Proofs.Ytcinnbkhnonijaa
