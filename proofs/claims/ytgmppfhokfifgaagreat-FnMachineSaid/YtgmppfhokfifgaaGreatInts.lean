/-
  Contracts of the laws' own helpers on []int64: toInt64S copies, eqInt64S compares, markInt64S writes a count, heldInt64S reads it.
-/
import Derived.Test.YtgmppfhokfifgaaGreatBase
namespace Go.Proofs.YtgmppfhokfifgaaGreat
set_option maxRecDepth 10000
open Go.RowKit


/-- What markInt64S leaves: the numbers from k on. -/
def countFrom (k : Int) : Nat → List Int
  | 0 => []
  | n + 1 => countFrom k n ++ [k + n]
/-- A list whose first k elements have been marked. -/
def marked (c : Int) (xs : List Int) (k : Nat) : List Int := countFrom c k ++ xs.drop k

end Go.Proofs.YtgmppfhokfifgaaGreat
