/-
  Contracts: where a handle begins, the first handle, whether a pair is a handle (the program's and the reference's functions).
-/
import Derived.Test.YtcoocjdkppdlmaaHnd
import Derived.Lib.QuietBelow
import Derived.BigGuardPart
namespace Go.Proofs.Ytcoocjdkppdlmaa
set_option maxRecDepth 10000
open Go.RowKit Go.Sort

theorem set_below {B : Nat} {w w1 : World} {p : Addr} {x : Value} (hp : B ≤ p.block) (h : Below B w w1) : Below B w (w1.setCell p x) :=
  ⟨h.os, h.tape, h.output, by simpa [World.setCell] using h.size, fun b hb => by rw [Below.heap_setCell _ _ _ _ (by omega)]; exact h.block b hb⟩
theorem drewN_drewN (w : World) (n m : Nat) : (w.drewN n).drewN m = w.drewN (n + m) := World.drewN_drewN w n m
end Go.Proofs.Ytcoocjdkppdlmaa
