/-
  Contracts: is a loop described rightly (the program's isInfo, the reference's l07Info). Printed by gen_vm2.py.
-/
import Derived.Test.YtgmppfhokfifgaaVm
namespace Go.Proofs.Ytgmppfhokfifgaa
set_option maxRecDepth 10000
open Go.RowKit

def kindB (k : Int) : Bool := k == 1 || k == 2 || k == 5
def parB (n : Int) (ps : List Int) (i : Nat) : Bool := inR (gi ps i) 0 (n - 1) && !hasI (ps.take i) (gi ps i)
def parsB (n : Int) (ps : List Int) : Bool := (List.range ps.length).all (parB n ps)
def infB (wd n a0 a1 a2 a3 a4 : Int) (ps : List Int) : Bool :=
  kindB a0 && inR a1 1 4 && bedB a2 && inR a3 0 (wd - 1) && dirB a4 && decide (ps.length ≤ 4) && parsB n ps && (a0 != 2 || ps.length == 0) && (a0 != 5 || decide (0 < ps.length))
end Go.Proofs.Ytgmppfhokfifgaa
