/-
  Contracts: the generators of which images are conjugates (the program's generatorsOf, the reference's l05Places), ActionPermutation of both.
-/
import Derived.Test.YtcinnbkhnonijaaAct3
namespace Go.Proofs.Ytcinnbkhnonijaa
set_option maxRecDepth 10000
open Go.RowKit

def hasI (xs : List Int) (k : Int) : Bool := xs.any fun x => x == k
theorem hasI_no {xs : List Int} {k : Int} (h : ∀ j, j < xs.length → gi xs j ≠ k) : hasI xs k = false := by
  rw [← Bool.not_eq_true, hasI, List.any_eq_true]
  rintro ⟨x, hx, he⟩
  obtain ⟨j, hj, rfl⟩ := List.getElem_of_mem hx
  rw [← gi_eq hj] at he
  exact h j hj (by simpa using he)
theorem hasI_yes {xs : List Int} {k : Int} {j : Nat} (hj : j < xs.length) (h : gi xs j = k) : hasI xs k = true := by
  rw [hasI, List.any_eq_true]; exact ⟨_, gi_mem hj, by simpa using h⟩
set_option maxHeartbeats 400000 in
theorem l00Has_any (v : Value) (xs : List Int) (k : Int) (B : Nat) (w : World) (h : Sl w B v xs) :
    Calls Try.prog 86 #[v, .int .i64 k] w fun e w' => e = .returned (.bool (hasI xs k)) ∧ w = w' := by
  obtain ⟨A, c, rfl, hl, hm, _, hcells⟩ := h
  unfold maxLen at hm
  have HC := Lib.hid hcells
  clear hcells
  go_enter Try.func86, Try.ntmps86
  go_wp2
  go_loop [5] (fun i => ∃ j : Nat, j ≤ xs.length ∧ i = .int .i64 j ∧ ∀ i, i < j → gi xs i ≠ k) (fun i => xs.length - (intOf i).toNat)
  case atStart => exact ⟨0, Nat.zero_le _, rfl, fun j hj => absurd hj (Nat.not_lt_zero _)⟩
  case round =>
    obtain ⟨j, hj, rfl, hgood⟩ := hrel
    have HG := Lib.hid hgood
    clear hgood
    by_cases hlt : j < xs.length
    · obtain ⟨b, off, rfl, hbB, hcell⟩ := HC.out (by omega)
      have q1 := hcell j hlt
      clear hcell
      by_cases he : gi xs j = k
      · have heb : (gi xs j == k) = true := by simp [he]
        have HF := Lib.hid (hasI_yes hlt he)
        clear he
        go_wp2
        go_ret
        exact ⟨ret_bool HF.out.symm, rfl⟩
      · have heb : (gi xs j == k) = false := by simp [he]
        have HN := Lib.hid he
        clear he
        go_wp2
        go_round
        case rel =>
          refine ⟨j + 1, by omega, by go_num, fun i hi => ?_⟩
          by_cases hij : i < j
          · exact HG.out i hij
          · obtain rfl : i = j := by omega
            exact HN.out
        case measure => simp [intOf]; omega
    · have HF := Lib.hid (hasI_no (k := k) fun i hi => HG.out i (by omega))
      go_wp2
      go_ret
      exact ⟨ret_bool HF.out.symm, rfl⟩
/-- The core of an image. -/
def coreR (xs : List Int) : List Int := coreB (red xs)
def plB (out : List Int) (d : List Int) : Bool := decide (d.length = 1) && (decide (0 < gi d 0) && !hasI out (gi d 0 - 1))
def plGo (out : List Int) : List (List Int) → Option (List Int)
  | [] => some out
  | xs :: r => if plB out (coreR xs) = true then plGo (out ++ [gi (coreR xs) 0 - 1]) r else none
theorem plGo_on {out : List Int} {xss : List (List Int)} {k : Nat} (hk : k < xss.length) (h : plB out (coreR (gl xss k)) = true) : plGo out (xss.drop k) = plGo (out ++ [gi (coreR (gl xss k)) 0 - 1]) (xss.drop (k + 1)) := by rw [drop_gl hk, plGo, if_pos h]
theorem plGo_off {out : List Int} {xss : List (List Int)} {k : Nat} (hk : k < xss.length) (h : plB out (coreR (gl xss k)) = false) : plGo out (xss.drop k) = none := by rw [drop_gl hk, plGo, if_neg (by rw [h]; simp)]
theorem plGo_len {out o : List Int} {xss : List (List Int)} (h : plGo out xss = some o) : o.length = out.length + xss.length := by
  induction xss generalizing out with
  | nil => simp [plGo] at h; rw [← h]; simp
  | cons a r ih =>
    rw [plGo] at h
    split at h
    · have := ih h; simp at this ⊢; omega
    · cases h
theorem coreR_mem {xs : List Int} {x : Int} (h : x ∈ coreR xs) : x ∈ xs := red_mem (List.mem_of_mem_drop (List.mem_of_mem_take h))
theorem coreR_len (xs : List Int) : (coreR xs).length ≤ xs.length := by
  have := red_len xs; simp [coreR, coreB]; omega
def apB (xss : List (List Int)) : Bool := okImgs xss && (plGo [] xss).isSome
def apL (xss : List (List Int)) : List Int := if okImgs xss = true then optL (plGo [] xss) else []
theorem apL_len (xss : List (List Int)) : (apL xss).length ≤ xss.length := by
  unfold apL
  split
  · cases h : plGo [] xss with
    | none => simp [optL]
    | some o => have := plGo_len h; simp [optL] at this ⊢; omega
  · simp
end Go.Proofs.Ytcinnbkhnonijaa
