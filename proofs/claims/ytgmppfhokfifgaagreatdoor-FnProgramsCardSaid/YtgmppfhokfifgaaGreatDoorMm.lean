/-
  Contracts: the lesser and the greater of two numbers (the reference's l00Min, l00Max).
-/
import Derived.Test.YtgmppfhokfifgaaGreatDoorBase
namespace Go.Proofs.YtgmppfhokfifgaaGreatDoor
set_option maxRecDepth 10000
open Go.RowKit

theorem max_if (a b : Int) : max a b = if b < a then a else b := by split <;> omega
theorem min_if (a b : Int) : min a b = if a < b then a else b := by split <;> omega
theorem l00Min_any (a b : Int) (w : World) : Calls Tryz.prog 114 #[.int .i64 a, .int .i64 b] w fun e w' => e = .returned (.int .i64 (min a b)) ∧ w = w' := by
  rw [min_if]
  by_cases h : a < b
  · rw [if_pos h]
    go_enter Tryz.func114, Tryz.ntmps114
    go_wp2
    go_ret
    exact ⟨rfl, rfl⟩
  · rw [if_neg h]
    go_enter Tryz.func114, Tryz.ntmps114
    go_wp2
    go_ret
    exact ⟨rfl, rfl⟩
theorem l00Max_any (a b : Int) (w : World) : Calls Tryz.prog 113 #[.int .i64 a, .int .i64 b] w fun e w' => e = .returned (.int .i64 (max a b)) ∧ w = w' := by
  rw [max_if]
  by_cases h : b < a
  · rw [if_pos h]
    go_enter Tryz.func113, Tryz.ntmps113
    go_wp2
    go_ret
    exact ⟨rfl, rfl⟩
  · rw [if_neg h]
    go_enter Tryz.func113, Tryz.ntmps113
    go_wp2
    go_ret
    exact ⟨rfl, rfl⟩
end Go.Proofs.YtgmppfhokfifgaaGreatDoor
