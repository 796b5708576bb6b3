/-
  Copies of slices of operations (append of a whole slice, slices.Clone); needles moved and mirrored (the reference's l08Moved, l08Mirror).
-/
import Derived.Test.YtgmppfhokfifgaaGreatDoorPo3
import Derived.Test.YtgmppfhokfifgaaGreatDoorSt
import Derived.Test.YtgmppfhokfifgaaGreatDoorPrg
import Derived.Lib.AppendZeros
namespace Go.Proofs.YtgmppfhokfifgaaGreatDoor
set_option maxRecDepth 10000
open Go.RowKit

theorem OwT.of_own {s : Nat} {e : TypeId} {w : World} {lo : Nat} {v : Value} {n : Nat} {us : List Value} {os : List (List Int)} (h : w.ownsRow lo e s v n us) (hn : n = os.length) (hu : us = vals os.flatten) (h8 : ∀ o ∈ os, o.length = s) : OwT s e w lo w.heap.size v os := by
  subst hn hu
  exact ⟨⟨h, fun g hg => (h.lt g hg).2⟩, h8⟩
theorem OwT.empty_ (s : Nat) (e : TypeId) (w : World) : OwT s e (w.alloc (.cells #[] e)) w.heap.size (w.alloc (.cells #[] e)).heap.size (.slice (some ⟨w.heap.size, 0, none⟩) 0 0) [] := ⟨OwR.empty e s w, by simp⟩
end Go.Proofs.YtgmppfhokfifgaaGreatDoor
