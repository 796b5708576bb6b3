/-
  Contracts: the program's OtherBed, facing, FacingOf, LoopsOn.
-/
import Derived.Test.YtgmppfhokfifgaaVm7
import Derived.Test.YtgmppfhokfifgaaSlib
import Derived.Deep.RegionHeld3
import Derived.IntWalk
import Derived.StillTailTactics
namespace Go.Proofs.Ytgmppfhokfifgaa
set_option maxRecDepth 10000
open Go.RowKit

theorem box2f {w : World} {g : Nat} {a b : Value} {t : TypeId} (h : w.heap[g]? = some (.cells #[a, b] t)) : w.cell? ⟨g, 0, none⟩ = some a ∧ w.cell? ⟨g, 1, none⟩ = some b ∧ w.frozen? ⟨g, 0, none⟩ = false ∧ w.frozen? ⟨g, 1, none⟩ = false ∧ g < w.heap.size := box2 h
end Go.Proofs.Ytgmppfhokfifgaa
