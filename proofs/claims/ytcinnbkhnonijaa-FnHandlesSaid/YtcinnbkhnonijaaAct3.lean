/-
  Contracts: images and their application to a word (the reference's l05Images, l05Apply, ApplyAction).
-/
import Derived.Test.YtcinnbkhnonijaaAct2
namespace Go.Proofs.Ytcinnbkhnonijaa
set_option maxRecDepth 10000
open Go.RowKit
def optL (r : Option (List Int)) : List Int := match r with | none => [] | some o => o

theorem okFree_big {n : Int} {xs : List Int} (h : ¬ n ≤ 12) : okFree n xs = false := by
  rw [okFree, inR_no (by omega)]; rfl
end Go.Proofs.Ytcinnbkhnonijaa
