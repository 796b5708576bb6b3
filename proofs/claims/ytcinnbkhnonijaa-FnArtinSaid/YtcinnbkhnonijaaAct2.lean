/-
  Contracts: images and their application to a word (the program's areImages and ApplyAction).
-/
import Derived.Test.YtcinnbkhnonijaaAct
import Derived.Test.YtcinnbkhnonijaaKss
namespace Go.Proofs.Ytcinnbkhnonijaa
set_option maxRecDepth 10000
open Go.RowKit

/-- Are the rows words in n generators? -/
def rowsOk (n : Int) (xss : List (List Int)) : Bool := xss.all fun xs => okFree n xs
def okImgs (xss : List (List Int)) : Bool := inR xss.length 0 12 && rowsOk xss.length xss
theorem rowsOk_iff {n : Int} {xss : List (List Int)} : rowsOk n xss = true ↔ ∀ j, j < xss.length → okFree n (gl xss j) = true := by
  simp only [rowsOk, List.all_eq_true]
  constructor
  · intro h j hj
    exact h _ (gl_mem hj)
  · intro h x hx
    obtain ⟨j, hj, rfl⟩ := List.getElem_of_mem hx
    rw [← gl_eq hj]
    exact h j hj
theorem rowsOk_false {n : Int} {xss : List (List Int)} {j : Nat} (hj : j < xss.length) (h : okFree n (gl xss j) = false) : rowsOk n xss = false := by
  rw [← Bool.not_eq_true]
  intro h'
  rw [rowsOk_iff.1 h' j hj] at h
  cases h
theorem okImgs_parts {xss : List (List Int)} (h : okImgs xss = true) : xss.length ≤ 12 ∧ ∀ j, j < xss.length → okFree xss.length (gl xss j) = true := by
  simp only [okImgs, Bool.and_eq_true] at h
  have := inR_iff.1 h.1
  exact ⟨by omega, rowsOk_iff.1 h.2⟩
/-- The image of a letter under images. -/
def imgA (xss : List (List Int)) (g : Int) : List Int := if 0 < g then gl xss (ab g - 1).toNat else inv (gl xss (ab g - 1).toNat)
/-- A word applied to, letter by letter; nothing if it gets too long. -/
def appGo (xss : List (List Int)) (out : List Int) : List Int → Option (List Int)
  | [] => some out
  | g :: r => if (pushAll out (imgA xss g)).length ≤ 20000 then appGo xss (pushAll out (imgA xss g)) r else none
def appOf (r : Option (List Int)) : List Int × Int := match r with | none => ([], 5) | some o => (o, 0)
def appA (xss : List (List Int)) (ys : List Int) : List Int × Int := if okImgs xss = true ∧ okFree xss.length ys = true then appOf (appGo xss [] ys) else ([], 1)
theorem appGo_len {xss : List (List Int)} {out ys o : List Int} (h : appGo xss out ys = some o) (hl : out.length ≤ 20000) : o.length ≤ 20000 := by
  induction ys generalizing out with
  | nil => simp [appGo] at h; rw [← h]; exact hl
  | cons g r ih =>
    rw [appGo] at h
    split at h
    · rename_i h2; exact ih h h2
    · cases h
theorem appA_len (xss : List (List Int)) (ys : List Int) : (appA xss ys).1.length ≤ 20000 := by
  unfold appA
  split
  · cases h : appGo xss [] ys with
    | none => simp [appOf]
    | some o => exact appGo_len h (by simp)
  · simp
theorem appGo_on {xss : List (List Int)} {out ys : List Int} {k : Nat} (hk : k < ys.length) (h : (pushAll out (imgA xss (gi ys k))).length ≤ 20000) :
    appGo xss out (ys.drop k) = appGo xss (pushAll out (imgA xss (gi ys k))) (ys.drop (k + 1)) := by rw [drop_gi hk, appGo, if_pos h]
theorem appGo_off {xss : List (List Int)} {out ys : List Int} {k : Nat} (hk : k < ys.length) (h : ¬ (pushAll out (imgA xss (gi ys k))).length ≤ 20000) :
    appGo xss out (ys.drop k) = none := by rw [drop_gi hk, appGo, if_neg h]
theorem imgA_if (xss : List (List Int)) (g : Int) : imgA xss g = if decide (0 < g) = true then gl xss (ab g - 1).toNat else inv (gl xss (ab g - 1).toNat) := by
  unfold imgA; by_cases h : 0 < g <;> simp [h]
theorem imgs_row {xss : List (List Int)} (h : okImgs xss = true) {j : Nat} (hj : j < xss.length) : (gl xss j).length ≤ 20000 ∧ ∀ x ∈ gl xss j, x ≠ 0 ∧ -12 ≤ x ∧ x ≤ 12 := by
  have := (okImgs_parts h).2 j hj
  exact ⟨(okFree_parts this).2.2.1, okFree_mem this⟩
theorem free_letter {xss : List (List Int)} {ys : List Int} (h : okFree xss.length ys = true) {k : Nat} (hk : k < ys.length) : 0 ≤ ab (gi ys k) - 1 ∧ (ab (gi ys k) - 1).toNat < xss.length ∧ -12 ≤ gi ys k ∧ gi ys k ≤ 12 := by
  have h1 := letters_mem (okFree_parts h).2.2.2 _ (gi_mem hk)
  have h2 := okFree_mem h _ (gi_mem hk)
  unfold ab
  omega
end Go.Proofs.Ytcinnbkhnonijaa
