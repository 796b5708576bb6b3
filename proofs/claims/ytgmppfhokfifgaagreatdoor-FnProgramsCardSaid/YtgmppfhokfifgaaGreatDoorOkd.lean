/-
  Is a machine valid (okM), as a Bool that the walk does not take apart.
-/
import Derived.Test.YtgmppfhokfifgaaGreatDoorGvv
import Derived.Test.YtgmppfhokfifgaaGreatDoorSlib
namespace Go.Proofs.YtgmppfhokfifgaaGreatDoor
set_option maxRecDepth 10000

def crOk (wd : Int) (c : Bool × Int) : Bool := inR c.2 (-3) (wd + 3) && (c.1 || c.2 == 0)
def infI (wd : Int) (L : List (List Int)) (i : Nat) : Bool := infB wd i (gi (gl L i) 0) (gi (gl L i) 1) (gi (gl L i) 2) (gi (gl L i) 3) (gi (gl L i) 4) ((gl L i).drop 5)
def allM (m : Mac) : List Int := m.fr.flatten ++ m.bk.flatten ++ m.dr
end Go.Proofs.YtgmppfhokfifgaaGreatDoor
