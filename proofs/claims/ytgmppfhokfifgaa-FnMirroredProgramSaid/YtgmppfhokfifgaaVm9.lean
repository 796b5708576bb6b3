/-
  Contracts: the reference's ValidMachine, l07Place, PlaceOf.
-/
import Derived.Test.YtgmppfhokfifgaaOkd
import Derived.Deep.RegionHeld3
import Derived.IntWalk
import Derived.Test.YtgmppfhokfifgaaVm7
namespace Go.Proofs.Ytgmppfhokfifgaa
set_option maxRecDepth 10000
open Go.RowKit

set_option maxHeartbeats 800000 in
theorem l07Place_any (b a r : Int) (w : World) (h1 : 0 ≤ a ∧ a ≤ 23) (h2 : -3 ≤ r ∧ r ≤ 3) : Calls Try.prog 70 #[.agg #[.int .i64 b, .int .i64 a], .int .i64 r] w fun e w' => e = .returned (.int .i64 (plc b a r)) ∧ Below w.heap.size w w' := by
  obtain ⟨a0, a1⟩ := h1
  obtain ⟨r0, r1⟩ := h2
  by_cases hb : b = 2
  · have HT := Lib.hid (plc_yes (a := a) (r := r) hb)
    subst hb
    go_enter Try.func70, Try.ntmps70
    go_wp2
    go_ret
    exact ⟨ret_int HT.out.symm, al1 _ _⟩
  · have hbb : (b == 2) = false := by simp [hb]
    have HT := Lib.hid (plc_no (a := a) (r := r) hb)
    clear hb
    go_enter Try.func70, Try.ntmps70
    go_wp2
    go_ret
    exact ⟨ret_int HT.out.symm, al1 _ _⟩
end Go.Proofs.Ytgmppfhokfifgaa
