/-
  A slice of slices of int64 as an argument: what the claim's frame hands over reads as rows.
-/
import Derived.Test.YtbefioljddhhpaaGreatOpen
import Derived.Test.YtbefioljddhhpaaGreatSs
import Derived.Deep.Slices
namespace Go.Proofs.YtbefioljddhhpaaGreat
set_option maxRecDepth 10000
open Go.RowKit Go.ChangeShapes Go.WideShapes Go.ChangeAt Go.Deep
section
variable {H : Type} {enc : TypeId × Value → H} {w : World} {spare : Nat → Bool} {held : Bool}
theorem sls_trod {fuel : Nat} {cs : List Value} {x : DataW H × List MemPlace} (h : DataW.trod enc Tryz.prog w 0 spare held fuel 22 cs = some x) :
    ∃ v xss, cs = [v] ∧ SlS w w.heap.size v xss ∧ ∀ xs ∈ xss, ∀ n ∈ xs, R64 n := by
  rcases open_slice1 Tryz.underlying22 (by kernel_rfl) h with ⟨hcs, _⟩ | ⟨a, len, cap, m, n, V, D, Pl, hcs, _, hl, hm, hmm, _, hx⟩
  · exact ⟨_, [], hcs, SlS.nil _ _, by simp⟩
  · have hlm : len ≤ m := by rw [hmm]; split <;> omega
    obtain ⟨X, hX⟩ := choose_lt (α := List Int) (n := len) (p := fun i xs => w.cell? (a.add i) = some (V i) ∧ Sl w w.heap.size (V i) xs ∧ ∀ n ∈ xs, R64 n) (fun i hi => by
      obtain ⟨h1, h2⟩ := hx i (by omega)
      obtain ⟨v, xs, e, hs, hr⟩ := sl_trod h2
      simp at e
      exact ⟨xs, h1, by rw [e]; exact hs, hr⟩)
    have hgl : ∀ k, k < len → gl ((List.range len).map X) k = X k := fun k hk => by rw [gl_eq (by simpa using hk)]; simp
    refine ⟨_, (List.range len).map X, hcs, ⟨some a, cap, by simp, by simpa using hl, hm, by simp, fun hp => ?_⟩, fun xs hxs => ?_⟩
    · have hp' : 0 < len := by simpa using hp
      have h0 := (hX 0 hp').1
      rw [show a.add 0 = a from rfl] at h0
      obtain ⟨ha, hlt⟩ := addr_of_cell h0
      refine ⟨a.block, a.off, by rw [← ha], hlt, fun k hk => ?_⟩
      have hk' : k < len := by simpa using hk
      obtain ⟨h1, h2, _⟩ := hX k hk'
      rw [ha, Addr.add_lit] at h1
      exact ⟨V k, h1, by rw [hgl k hk']; exact h2⟩
    · obtain ⟨i, hi, rfl⟩ := List.mem_map.1 hxs
      exact (hX i (by simpa using hi)).2.2
end
end Go.Proofs.YtbefioljddhhpaaGreat
