/-
  Contracts: the program's makesLoop, carrierFits. Printed by gen_cfi.py.
-/
import Derived.Test.YtgmppfhokfifgaaGpo
import Derived.Test.YtgmppfhokfifgaaVm8
import Derived.Test.YtgmppfhokfifgaaGma
import Derived.Test.YtgmppfhokfifgaaZr
import Derived.IntWalk
import Derived.Lib.QuietBelow
namespace Go.Proofs.Ytgmppfhokfifgaa
set_option maxRecDepth 10000
open Go.RowKit

theorem SlK.at_ {w : World} {B : Nat} {v : Value} {C : List (Bool × Int)} (h : SlK w B v C) (K : Nat) (hK : K < C.length) :
    ∃ p o cap, v = .slice (some ⟨p, o, none⟩) C.length cap ∧ p < w.heap.size ∧ w.cell? ⟨p, o + K * 2, none⟩ = some (.bool (gc C K).1) ∧ w.cell? ⟨p, o + K * 2 + 1, none⟩ = some (.int .i64 (gc C K).2) := by
  obtain ⟨A, c, e, -, -, hc⟩ := h.cells
  obtain ⟨b, off, rfl, -, hk⟩ := hc (by omega)
  exact ⟨b, off, c, e, block_lt_of_cell (hk K hK).1, (hk K hK).1, (hk K hK).2⟩
def op8 (o : List Int) : Value := .agg #[.int .i64 (gi o 0), .int .i64 (gi o 1), .int .i64 (gi o 2), .int .i64 (gi o 3), .int .i64 (gi o 4), .int .i64 (gi o 5), .int .i64 (gi o 6), .int .i64 (gi o 7)]
/-- Boxes of eight cells. -/
theorem box8 {w : World} {g : Nat} {a b c d e f h i : Value} {t : TypeId} (hx : w.heap[g]? = some (.cells #[a, b, c, d, e, f, h, i] t)) :
    (w.cell? ⟨g, 0, none⟩ = some a ∧ w.cell? ⟨g, 1, none⟩ = some b ∧ w.cell? ⟨g, 2, none⟩ = some c ∧ w.cell? ⟨g, 3, none⟩ = some d ∧ w.cell? ⟨g, 4, none⟩ = some e ∧ w.cell? ⟨g, 5, none⟩ = some f ∧ w.cell? ⟨g, 6, none⟩ = some h ∧ w.cell? ⟨g, 7, none⟩ = some i) ∧ (∀ k, w.frozen? ⟨g, k, none⟩ = false) ∧ g < w.heap.size :=
  ⟨⟨cell_of_row w g 0 _ t (0, 0) hx, cell_of_row w g 1 _ t (0, 0) hx, cell_of_row w g 2 _ t (0, 0) hx, cell_of_row w g 3 _ t (0, 0) hx, cell_of_row w g 4 _ t (0, 0) hx, cell_of_row w g 5 _ t (0, 0) hx, cell_of_row w g 6 _ t (0, 0) hx, cell_of_row w g 7 _ t (0, 0) hx⟩, fun k => by simp only [World.frozen?, hx]; simp, heap_lt hx⟩
end Go.Proofs.Ytgmppfhokfifgaa
