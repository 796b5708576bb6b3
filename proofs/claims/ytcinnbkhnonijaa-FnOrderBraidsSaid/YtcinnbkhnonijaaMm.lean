/-
  Contracts: the lesser and the greater of two numbers (the reference's l00Min, l00Max).
-/
import Derived.Test.YtcinnbkhnonijaaBase
namespace Go.Proofs.Ytcinnbkhnonijaa
set_option maxRecDepth 10000
open Go.RowKit

theorem max_if (a b : Int) : max a b = if b < a then a else b := by split <;> omega
theorem min_if (a b : Int) : min a b = if a < b then a else b := by split <;> omega
end Go.Proofs.Ytcinnbkhnonijaa
