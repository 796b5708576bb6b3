/-
  A box that a region has made somewhere behind its start, as a thing among things.
-/
import Derived.Test.YtbefioljddhhpaaSt
namespace Go.Proofs.Ytbefioljddhhpaa
set_option maxRecDepth 10000
open Go.RowKit
theorem hs_box_at {w w' : World} {g : Nat} {cs : Array Value} {t : TypeId} (hb : Below w.heap.size w w') (hg : w.heap.size ≤ g) (hx : w'.heap[g]? = some (.cells cs t)) : Hs w' w.heap.size [bx_ g cs t] :=
  Hs.one (t := bx_ g cs t) (S := fun k => k = g) hb.size ⟨rfl, hx⟩ fun k hk => ⟨by omega, by have := (Array.getElem?_eq_some_iff.1 hx).1; omega⟩
end Go.Proofs.Ytbefioljddhhpaa
