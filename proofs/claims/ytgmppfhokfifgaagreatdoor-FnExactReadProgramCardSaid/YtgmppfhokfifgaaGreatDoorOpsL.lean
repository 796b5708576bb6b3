/-
  Contract of the reference's l07Op, by kinds of operations.
-/
import Derived.Test.YtgmppfhokfifgaaGreatDoorOpsKa
import Derived.Test.YtgmppfhokfifgaaGreatDoorOpsKb
import Derived.Test.YtgmppfhokfifgaaGreatDoorOpsKc
import Derived.Test.YtgmppfhokfifgaaGreatDoorOpsKd
namespace Go.Proofs.YtgmppfhokfifgaaGreatDoor
set_option maxRecDepth 10000
open Go.RowKit Go.Sort
set_option maxRecDepth 100000 in
set_option maxHeartbeats 8000000 in
theorem l07Op_any (k d fb fa tb ta c r : Int) (b o : Nat) (w : World) (h : OpAt w b o k d fb fa tb ta c r) :
    Calls Tryz.prog 71 #[.pointer (some ⟨b, o, none⟩)] w fun e w' => e = .returned (.bool (vOp k d fb fa tb ta c r)) ∧ Below w.heap.size w w' := by
  rcases (show k = 1 ∨ k = 2 ∨ k = 3 ∨ k = 4 ∨ k = 5 ∨ k = 6 ∨ k = 7 ∨ k = 8 ∨ k = 9 ∨ (k ≠ 1 ∧ k ≠ 2 ∧ k ≠ 3 ∧ k ≠ 4 ∧ k ≠ 5 ∧ k ≠ 6 ∧ k ≠ 7 ∧ k ≠ 8 ∧ k ≠ 9) from by omega) with rfl | rfl | rfl | rfl | rfl | rfl | rfl | rfl | rfl | ⟨h1, h2, h3, h4, h5, h6, h7, h8, h9⟩
  · exact l07Op_k1 d fb fa tb ta c r b o w h
  · exact l07Op_k2 d fb fa tb ta c r b o w h
  · exact l07Op_k3 d fb fa tb ta c r b o w h
  · exact l07Op_k4 d fb fa tb ta c r b o w h
  · exact l07Op_k5 d fb fa tb ta c r b o w h
  · exact l07Op_k6 d fb fa tb ta c r b o w h
  · exact l07Op_k7 d fb fa tb ta c r b o w h
  · exact l07Op_k8 d fb fa tb ta c r b o w h
  · exact l07Op_k9 d fb fa tb ta c r b o w h
  · obtain ⟨hlt, k0, k1, k2, k3, k4, k5, k6, k7, n0, n1, c0⟩ := opAt_facts h
    clear h
    go_enter Tryz.func71, Tryz.ntmps71
    go_wp2
    go_ret
    exact ⟨ret_bool (by simp_all [vOp]), al1 _ _⟩

end Go.Proofs.YtgmppfhokfifgaaGreatDoor
