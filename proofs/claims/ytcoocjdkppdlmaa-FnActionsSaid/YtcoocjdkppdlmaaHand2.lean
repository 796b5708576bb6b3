/-
  Contracts: the form of a quotient (the program's quotientForm, the reference's l06Between), HandleEqual and CompareBraids of both.
-/
import Derived.Test.YtcoocjdkppdlmaaHand1
import Derived.Deep.RegionHeld3
namespace Go.Proofs.Ytcoocjdkppdlmaa
set_option maxRecDepth 10000
open Go.RowKit

theorem inv_lt {xs : List Int} (h : Lt xs) : Lt (inv xs) := fun x hx => by have := h _ (inv_mem hx); omega
theorem lt_append {xs ys : List Int} (h : Lt xs) (h2 : Lt ys) : Lt (xs ++ ys) := fun x hx => by rcases List.mem_append.1 hx with hx | hx; exact h x hx; exact h2 x hx
/-- The word of the quotient and a code. -/
def qB (s : Int) (xs : List Int) (t : Int) (ys : List Int) : List Int × Int := if okBr s xs = true ∧ okBr t ys = true then (if s = t then (inv xs ++ ys, 0) else ([], 6)) else ([], 1)
/-- Its form and a code. -/
def qA (s : Int) (xs : List Int) (t : Int) (ys : List Int) (b : Int) : List Int × Int := if (qB s xs t ys).2 = 0 then ((hForm (qB s xs t ys).1 b).1, (hForm (qB s xs t ys).1 b).2.2) else ([], (qB s xs t ys).2)
theorem qB_yes {s t : Int} {xs ys : List Int} (h1 : okBr s xs = true) (h2 : okBr t ys = true) (h : s = t) : qB s xs t ys = (inv xs ++ ys, 0) := by unfold qB; rw [if_pos ⟨h1, h2⟩, if_pos h]
theorem qB_ne {s t : Int} {xs ys : List Int} (h1 : okBr s xs = true) (h2 : okBr t ys = true) (h : ¬ s = t) : qB s xs t ys = ([], 6) := by unfold qB; rw [if_pos ⟨h1, h2⟩, if_neg h]
theorem braids_cells (w : World) (s t : Int) (v u : Value) : let W := (w.alloc (.cells #[.int .i64 s, v] 41)).alloc (.cells #[.int .i64 t, u] 41)
    W.cell? ⟨w.heap.size, 0, none⟩ = some (.int .i64 s) ∧ W.cell? ⟨w.heap.size, 1, none⟩ = some v ∧ W.cell? ⟨w.heap.size + 1, 0, none⟩ = some (.int .i64 t) ∧ W.cell? ⟨w.heap.size + 1, 1, none⟩ = some u :=
  ⟨by simp [World.cell?_alloc_lt], by simp [World.cell?_alloc_lt], by simp, by simp⟩
end Go.Proofs.Ytcoocjdkppdlmaa
