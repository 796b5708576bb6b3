/-
  Contracts: the program's place, PlaceOf, facing, FacingOf, on, LoopsOn.
-/
import Derived.Test.YtgmppfhokfifgaaGpo
import Derived.Deep.RegionHeld3
namespace Go.Proofs.Ytgmppfhokfifgaa
set_option maxRecDepth 10000
open Go.RowKit

theorem plc_yes {b a r : Int} (h : b = 2) : plc b a r = a + r := if_pos h
theorem plc_no {b a r : Int} (h : b ≠ 2) : plc b a r = a := if_neg h
theorem plc_bd {b a r : Int} (h1 : 0 ≤ a ∧ a ≤ 23) (h2 : -3 ≤ r ∧ r ≤ 3) : -3 ≤ plc b a r ∧ plc b a r ≤ 26 := by unfold plc; split <;> omega
theorem cellBed {w : World} {g : Nat} {x0 x1 f b x4 x5 x6 : Value} {t : TypeId} (hx : w.heap[g]? = some (.cells #[x0, x1, f, b, x4, x5, x6] t)) : w.cell? ⟨g, 2, none⟩ = some f ∧ w.cell? ⟨g, 3, none⟩ = some b ∧ g < w.heap.size :=
  ⟨(box7 hx).1.2.2.1, (box7 hx).1.2.2.2.1, heap_lt hx⟩
end Go.Proofs.Ytgmppfhokfifgaa
