/-
  Contracts: reducing a word (impl.reduced, spec.l03Reduce).
-/
import Derived.Test.YtcinnbkhnonijaaFree
namespace Go.Proofs.Ytcinnbkhnonijaa
set_option maxRecDepth 10000
open Go.RowKit
end Go.Proofs.Ytcinnbkhnonijaa
