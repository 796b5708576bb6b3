/-
  Contracts of the laws' own helpers on []int64: toInt64S copies, eqInt64S compares, markInt64S writes a count, heldInt64S reads it.
-/
import Derived.Test.YtgmppfhokfifgaaGreatDoorBase
namespace Go.Proofs.YtgmppfhokfifgaaGreatDoor
set_option maxRecDepth 10000
open Go.RowKit


/-- What markInt64S leaves: the numbers from k on. -/
def countFrom (k : Int) : Nat → List Int
  | 0 => []
  | n + 1 => countFrom k n ++ [k + n]

end Go.Proofs.YtgmppfhokfifgaaGreatDoor
