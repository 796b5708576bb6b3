/-
  Contracts: passes by value: toPass, ValidPass of the program and of the reference.
-/
import Derived.Test.YtgmppfhokfifgaaGreatDoorSmall
import Derived.BigGuardPart
namespace Go.Proofs.YtgmppfhokfifgaaGreatDoor
set_option maxRecDepth 10000
open Go.RowKit Go.Sort

/-- Is a pass valid? (kind, direction, carrier, rack, first, count) -/
def vPass (k d c r f n : Int) : Bool := inR r (-3) 3 && inR f 0 1499 && inR n 1 (1500 - f) && (if k = 1 then dirB d && inR c 1 4 else inR k 2 3 && d == 0 && c == 0)

end Go.Proofs.YtgmppfhokfifgaaGreatDoor
