/-
  A row of bytes of the call's own whose block may bear a frozen mark at its end (what a conversion from a string leaves): append of a string, of one byte.
-/
import Derived.Test.YtgmppfhokfifgaaGreatDoorOwr
import Derived.Lib.FrozenHead
import Derived.Lib.ConvBytes
namespace Go.Proofs.YtgmppfhokfifgaaGreatDoor
set_option maxRecDepth 10000
open Go.RowKit

/-- The row: cells us; a frozen mark, if there is one, lies at or behind the end of the room. -/
def OwZ (e : TypeId) (w : World) (lo hi : Nat) (v : Value) (n : Nat) (us : List Value) : Prop :=
  us.length = n ∧ ∃ g cap cur fz, v = .slice (some ⟨g, 0, none⟩) n cap ∧ lo ≤ g ∧ g < hi ∧ w.heap[g]? = some (.cells cur e fz) ∧ (fz = (0, 0) ∨ cap ≤ fz.1) ∧ n ≤ cap ∧ cap ≤ maxLen ∧ cur.size = cap ∧ cur.toList.take n = us
section
variable {e : TypeId} {w w' : World} {lo hi : Nat} {v : Value} {n : Nat} {us : List Value}
theorem OwZ.keep (h : OwZ e w lo hi v n us) (hk : ∀ k, lo ≤ k → k < hi → w'.heap[k]? = w.heap[k]?) : OwZ e w' lo hi v n us := by
  obtain ⟨h0, g, cap, cur, fz, rfl, h1, h2, h3, h4⟩ := h
  exact ⟨h0, g, cap, cur, fz, rfl, h1, h2, by rw [hk g h1 h2]; exact h3, h4⟩
theorem OwZ.below {B : Nat} (h : OwZ e w lo hi v n us) (hb : Below B w w') (hB : hi ≤ B) : OwZ e w' lo hi v n us := h.keep fun k _ hk => hb.block k (by omega)
theorem OwZ.mono {lo' hi' : Nat} (h : OwZ e w lo hi v n us) (h1 : lo' ≤ lo) (h2 : hi ≤ hi') : OwZ e w lo' hi' v n us := by
  obtain ⟨h0, g, cap, cur, fz, rfl, a, b, h3⟩ := h
  exact ⟨h0, g, cap, cur, fz, rfl, by omega, by omega, h3⟩
theorem OwZ.cells (h : OwZ e w lo hi v n us) : ∃ g cap, v = .slice (some ⟨g, 0, none⟩) n cap ∧ lo ≤ g ∧ g < hi ∧ ∀ (j : Nat) (u : Value), us[j]? = some u → w.cell? ((⟨g, 0, none⟩ : Addr).add j) = some u := by
  obtain ⟨h0, g, cap, cur, fz, rfl, a, b, h3, -, -, -, -, ht⟩ := h
  refine ⟨g, cap, rfl, a, b, fun j u hu => ?_⟩
  have hadd : (⟨g, 0, none⟩ : Addr).add j = ⟨g, j, none⟩ := by unfold Addr.add; split <;> simp_all
  rw [hadd, cell_of_row w g j cur e fz h3]
  rw [← ht, List.getElem?_take] at hu
  split at hu
  · simpa using hu
  · cases hu
theorem OwZ.lt (h : OwZ e w lo hi v n us) : ∀ g, v.ownBlock = some g → lo ≤ g ∧ g < hi := by
  obtain ⟨h0, g, cap, cur, fz, rfl, a, b, -⟩ := h
  intro k hk
  simp [Value.ownBlock] at hk
  omega
theorem OwZ.grown (h : OwZ e w lo hi v n us) (hg : w.grownBy w' v.ownBlock) {B : Nat} (hB : B ≤ lo) (hs : B ≤ w.heap.size) : Below B w w' :=
  ⟨hg.os, hg.tape, hg.output, hg.size, fun k hk => hg.block k (by omega) fun q => by have := (h.lt k q.symm).1; omega⟩
end
end Go.Proofs.YtgmppfhokfifgaaGreatDoor
