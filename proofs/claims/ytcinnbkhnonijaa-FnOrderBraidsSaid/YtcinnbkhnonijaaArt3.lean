/-
  The rows acted on letter by letter are the rows acted on row by row (plain law).
-/
import Derived.Test.YtcinnbkhnonijaaArt2
namespace Go.Proofs.Ytcinnbkhnonijaa
set_option maxRecDepth 10000
open Go.RowKit

def allLe (l : Int) (rows : List (List Int)) : Bool := rows.all fun r => decide ((actW l r).length ≤ 20000)
/-- All rows acted on by the letters in turn; nothing if a row gets too long. -/
def actRows (rows : List (List Int)) : List Int → Option (List (List Int))
  | [] => some rows
  | l :: t => if allLe l rows = true then actRows (rows.map (actW l)) t else none
def rowsO (ls : List Int) : List (List Int) → Option (List (List Int))
  | [] => some []
  | r :: t => match actGo r ls, rowsO ls t with
    | some a, some b => some (a :: b)
    | _, _ => none
theorem rowsO_nil (rows : List (List Int)) : rowsO [] rows = some rows := by
  induction rows with
  | nil => rfl
  | cons r t ih => simp [rowsO, ih, actGo]
theorem rowsO_cons (l : Int) (ls : List Int) (rows : List (List Int)) : rowsO (l :: ls) rows = if allLe l rows = true then rowsO ls (rows.map (actW l)) else none := by
  induction rows with
  | nil => rfl
  | cons r t ih =>
    simp only [rowsO, actGo, ih, allLe, List.all_cons, Bool.and_eq_true, decide_eq_true_eq, List.map_cons]
    by_cases h1 : (actW l r).length ≤ 20000
    · by_cases h2 : (t.all fun r => decide ((actW l r).length ≤ 20000)) = true
      · simp only [h1, h2, if_true, and_self]
      · simp only [h1, h2, if_true]
        simp
    · simp only [h1, false_and, if_false]
theorem actRows_eq (ls : List Int) (rows : List (List Int)) : actRows rows ls = rowsO ls rows := by
  induction ls generalizing rows with
  | nil => rw [rowsO_nil]; rfl
  | cons l t ih => rw [rowsO_cons, actRows, ih]
theorem rowsO_snoc (ls : List Int) (rows : List (List Int)) (r : List Int) : rowsO ls (rows ++ [r]) = match rowsO ls rows, actGo r ls with
    | some a, some b => some (a ++ [b])
    | _, _ => none := by
  induction rows with
  | nil => simp only [List.nil_append, rowsO]; cases actGo r ls <;> rfl
  | cons x t ih =>
    simp only [List.cons_append, rowsO, ih]
    cases actGo x ls with
    | none => cases rowsO ls t <;> rfl
    | some a =>
      cases rowsO ls t with
      | none => rfl
      | some b => cases actGo r ls <;> rfl
theorem artUp_eq (ls : List Int) (n : Nat) : artUp ls n = actRows (unitL n) ls := by
  rw [actRows_eq]
  induction n with
  | zero => rfl
  | succ n ih => rw [unitL_succ, rowsO_snoc, ← ih]; rfl
theorem actRows_on {rows : List (List Int)} {ls : List Int} {i : Nat} (hi : i < ls.length) (h : allLe (gi ls i) rows = true) : actRows rows (ls.drop i) = actRows (rows.map (actW (gi ls i))) (ls.drop (i + 1)) := by rw [drop_gi hi, actRows, if_pos h]
theorem actRows_off {rows : List (List Int)} {ls : List Int} {i : Nat} (hi : i < ls.length) (h : ¬ allLe (gi ls i) rows = true) : actRows rows (ls.drop i) = none := by rw [drop_gi hi, actRows, if_neg h]
/-- The first k rows acted on. -/
def mixR (l : Int) (rows : List (List Int)) (k : Nat) : List (List Int) := (rows.take k).map (actW l) ++ rows.drop k
theorem mixR_zero (l : Int) (rows : List (List Int)) : mixR l rows 0 = rows := by simp [mixR]
theorem mixR_all (l : Int) (rows : List (List Int)) : mixR l rows rows.length = rows.map (actW l) := by simp [mixR]
theorem mixR_len (l : Int) (rows : List (List Int)) (k : Nat) : (mixR l rows k).length = rows.length := by simp [mixR]; omega
theorem mixR_gl (l : Int) (rows : List (List Int)) (k : Nat) (h : k < rows.length) : gl (mixR l rows k) k = gl rows k := by
  rw [gl_eq (by rw [mixR_len]; exact h), gl_eq h]
  simp only [mixR]
  rw [List.getElem_append_right (by simp; omega)]
  simp [Nat.min_eq_left (Nat.le_of_lt h)]
theorem mixR_set (l : Int) (rows : List (List Int)) (k : Nat) (h : k < rows.length) : (mixR l rows k).set k (actW l (gl rows k)) = mixR l rows (k + 1) := by
  have hl : ((rows.take k).map (actW l)).length = k := by simp; omega
  rw [mixR, mixR, drop_gl h, List.set_append_right _ _ (by omega), hl, Nat.sub_self, List.set_cons_zero, take_gl h, List.map_append, List.append_assoc]
  rfl
theorem allLe_iff {l : Int} {rows : List (List Int)} : allLe l rows = true ↔ ∀ j, j < rows.length → (actW l (gl rows j)).length ≤ 20000 := by
  rw [allLe, List.all_eq_true]
  constructor
  · intro h j hj
    simpa using h _ (gl_mem hj)
  · intro h r hr
    obtain ⟨j, hj, rfl⟩ := List.getElem_of_mem hr
    have := h j hj
    rw [gl_eq hj] at this
    simpa using this
end Go.Proofs.Ytcinnbkhnonijaa
