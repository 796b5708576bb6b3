/-
  Contracts: the laws' helpers for braids and handles.
-/
import Derived.Test.YtbefioljddhhpaaGreatInts
import Derived.Test.YtbefioljddhhpaaGreatSmall
namespace Go.Proofs.YtbefioljddhhpaaGreat
set_option maxRecDepth 10000
open Go.RowKit

set_option maxHeartbeats 400000 in
theorem szInts_any {v : Value} {xs : List Int} {B : Nat} {left : Int} {w : World} (h : Sl w B v xs) (h1 : left ≤ 1048576) (h0 : 0 ≤ left) :
    Calls Tryz.prog 15 #[v, .int .i64 left] w fun e w' => e = .returned (.int .i64 (if left < xs.length then -1 else left - xs.length)) ∧ w = w' := by
  obtain ⟨A, c, rfl, hl, hm, -⟩ := id h
  unfold maxLen at hm
  by_cases hc : left < xs.length
  · have hc1 : left - xs.length < 0 := by omega
    go_enter Tryz.func15, Tryz.ntmps15
    go_wp2
    go_ret
    exact ⟨rfl, rfl⟩
  · have hc1 : ¬ left - xs.length < 0 := by omega
    go_enter Tryz.func15, Tryz.ntmps15
    go_wp2
    go_ret
    exact ⟨rfl, rfl⟩
end Go.Proofs.YtbefioljddhhpaaGreat
