/-
  Contracts: the main letter (the reference's l06Main), MainLetter and FirstHandle of both.
-/
import Derived.Test.YtcoocjdkppdlmaaHnd3
namespace Go.Proofs.Ytcoocjdkppdlmaa
set_option maxRecDepth 10000
open Go.RowKit

theorem two_sets (w1 : World) (g : Nat) {u0 u1 : Value} (x y : Value) (h0 : w1.cell? ⟨g, 0, none⟩ = some u0) (h1 : w1.cell? ⟨g, 1, none⟩ = some u1) :
    (w1.setCell ⟨g, 0, none⟩ x).cell? ⟨g, 0, none⟩ = some x ∧ ((w1.setCell ⟨g, 0, none⟩ x).setCell ⟨g, 1, none⟩ y).cell? ⟨g, 0, none⟩ = some x ∧ ((w1.setCell ⟨g, 0, none⟩ x).setCell ⟨g, 1, none⟩ y).cell? ⟨g, 1, none⟩ = some y := by
  have a0 := World.cell?_setCell_same w1 ⟨g, 0, none⟩ x h0
  have a1 : (w1.setCell ⟨g, 0, none⟩ x).cell? ⟨g, 1, none⟩ = some u1 := by
    rw [World.cell?_setCell_other]
    · exact h1
    · intro e; injection e with e1 e2; cases e2
  refine ⟨a0, ?_, World.cell?_setCell_same _ _ _ a1⟩
  rw [World.cell?_setCell_other]
  · exact a0
  · intro e; injection e with e1 e2; cases e2
end Go.Proofs.Ytcoocjdkppdlmaa
