/-
  Contracts: the laws' helpers for braids and handles.
-/
import Derived.Test.YtbefioljddhhpaaInts
import Derived.Test.YtbefioljddhhpaaSmall
namespace Go.Proofs.Ytbefioljddhhpaa
set_option maxRecDepth 10000
open Go.RowKit

theorem chg_below {w w' : World} {lo hi : Nat} (h : Below w.heap.size w w') : Chg lo hi w w' := ⟨h.os, h.tape, h.output, h.size, fun k hk _ => h.block k hk⟩
theorem cell_mid (w : World) (o : Obj) (cs : Array Value) (t : TypeId) (o2 : Obj) (i : Nat) : (((w.alloc o).alloc (.cells cs t)).alloc o2).cell? ⟨w.heap.size + 1, i, none⟩ = cs[i]? := by
  have h := World.cell?_alloc_new (w.alloc o) cs t i
  rw [show (w.alloc o).heap.size = w.heap.size + 1 by simp] at h
  rw [World.cell?_alloc_lt _ _ _ (by simp)]
  exact h
theorem three_sets (w1 : World) (g k : Nat) (u0 u1 x y z : Value) (hne : g ≠ k) (h0 : w1.cell? ⟨g, 0, none⟩ = some u0) (h1 : w1.cell? ⟨g, 1, none⟩ = some u1) :
    ((w1.setCell ⟨k, 1, none⟩ z).setCell ⟨g, 0, none⟩ x).cell? ⟨g, 0, none⟩ = some x ∧
    (((w1.setCell ⟨k, 1, none⟩ z).setCell ⟨g, 0, none⟩ x).setCell ⟨g, 1, none⟩ y).cell? ⟨g, 0, none⟩ = some x ∧
    (((w1.setCell ⟨k, 1, none⟩ z).setCell ⟨g, 0, none⟩ x).setCell ⟨g, 1, none⟩ y).cell? ⟨g, 1, none⟩ = some y ∧
    ∀ b, b ≠ g → b ≠ k → (((w1.setCell ⟨k, 1, none⟩ z).setCell ⟨g, 0, none⟩ x).setCell ⟨g, 1, none⟩ y).heap[b]? = w1.heap[b]? := by
  have a0 : ((w1.setCell ⟨k, 1, none⟩ z).setCell ⟨g, 0, none⟩ x).cell? ⟨g, 0, none⟩ = some x := by
    apply World.cell?_setCell_same
    rw [World.cell?_setCell_other]
    · exact h0
    · intro e; injection e with e1; exact hne e1.symm
  have a1 : ((w1.setCell ⟨k, 1, none⟩ z).setCell ⟨g, 0, none⟩ x).cell? ⟨g, 1, none⟩ = some u1 := by
    rw [World.cell?_setCell_other, World.cell?_setCell_other]
    · exact h1
    · intro e; injection e with e1; exact hne e1.symm
    · intro e; injection e with e1 e2; cases e2
  refine ⟨a0, ?_, World.cell?_setCell_same _ _ _ a1, fun b hb hk => ?_⟩
  · rw [World.cell?_setCell_other]
    · exact a0
    · intro e; injection e with e1 e2; cases e2
  · rw [Below.heap_setCell _ _ _ _ hb, Below.heap_setCell _ _ _ _ hb, Below.heap_setCell _ _ _ _ hk]
theorem three_below {w w1 : World} {g k : Nat} {x y z : Value} (hg : w.heap.size ≤ g) (hk : w.heap.size ≤ k) (h : Below w.heap.size w w1) :
    Below w.heap.size w (((w1.setCell ⟨k, 1, none⟩ z).setCell ⟨g, 0, none⟩ x).setCell ⟨g, 1, none⟩ y) :=
  ⟨h.os, h.tape, h.output, by simpa [World.setCell] using h.size, fun b hb => by
    rw [Below.heap_setCell _ _ _ _ (by simp only; omega), Below.heap_setCell _ _ _ _ (by simp only; omega), Below.heap_setCell _ _ _ _ (by simp only; omega)]; exact h.block b hb⟩
set_option maxHeartbeats 400000 in
theorem szInts_any {v : Value} {xs : List Int} {B : Nat} {left : Int} {w : World} (h : Sl w B v xs) (h1 : left ≤ 1048576) (h0 : 0 ≤ left) :
    Calls Try.prog 60 #[v, .int .i64 left] w fun e w' => e = .returned (.int .i64 (if left < xs.length then -1 else left - xs.length)) ∧ w = w' := by
  obtain ⟨A, c, rfl, hl, hm, -⟩ := id h
  unfold maxLen at hm
  by_cases hc : left < xs.length
  · have hc1 : left - xs.length < 0 := by omega
    go_enter Try.func60, Try.ntmps60
    go_wp2
    go_ret
    exact ⟨rfl, rfl⟩
  · have hc1 : ¬ left - xs.length < 0 := by omega
    go_enter Try.func60, Try.ntmps60
    go_wp2
    go_ret
    exact ⟨rfl, rfl⟩
end Go.Proofs.Ytbefioljddhhpaa
