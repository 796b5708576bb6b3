/-
  Contracts: the reference's ReadOp. Printed by gen_txa.py.
-/
import Derived.Test.YtgmppfhokfifgaaGreatDoorGtc
namespace Go.Proofs.YtgmppfhokfifgaaGreatDoor
set_option maxRecDepth 10000
open Go.RowKit Go.Sort
set_option linter.unusedSimpArgs false

theorem bx8_set {w : World} {g : Nat} {b0 b1 b2 b3 b4 b5 b6 b7 : Value} {t : TypeId} (a0 a1 a2 a3 a4 a5 a6 a7 : Value) (hx : w.heap[g]? = some (.cells #[b0, b1, b2, b3, b4, b5, b6, b7] t)) :
    let W := (((((((w.setCell ⟨g, 0, none⟩ a0).setCell ⟨g, 1, none⟩ a1).setCell ⟨g, 2, none⟩ a2).setCell ⟨g, 3, none⟩ a3).setCell ⟨g, 4, none⟩ a4).setCell ⟨g, 5, none⟩ a5).setCell ⟨g, 6, none⟩ a6).setCell ⟨g, 7, none⟩ a7
    W.heap[g]? = some (.cells #[a0, a1, a2, a3, a4, a5, a6, a7] t) ∧ (∀ j, j ≠ g → W.heap[j]? = w.heap[j]?) ∧ ∀ B, B ≤ g → Below B w W := by
  intro W
  refine ⟨?_, fun j hj => ?_, fun B hB => setBN hB (setBN hB (setBN hB (setBN hB (setBN hB (setBN hB (setBN hB (setBN hB (Below.refl _ _))))))))⟩
  · have s0 := heap_setCell_at (k := 0) a0 hx
    have s1 := heap_setCell_at (k := 1) a1 s0
    have s2 := heap_setCell_at (k := 2) a2 s1
    have s3 := heap_setCell_at (k := 3) a3 s2
    have s4 := heap_setCell_at (k := 4) a4 s3
    have s5 := heap_setCell_at (k := 5) a5 s4
    have s6 := heap_setCell_at (k := 6) a6 s5
    have s7 := heap_setCell_at (k := 7) a7 s6
    simpa using s7
  · simp only [W]
    rw [Below.heap_setCell _ _ _ _ hj, Below.heap_setCell _ _ _ _ hj, Below.heap_setCell _ _ _ _ hj, Below.heap_setCell _ _ _ _ hj, Below.heap_setCell _ _ _ _ hj, Below.heap_setCell _ _ _ _ hj, Below.heap_setCell _ _ _ _ hj, Below.heap_setCell _ _ _ _ hj]
theorem bx8f {w : World} {g : Nat} {a b c d e f h i : Value} {t : TypeId} (hx : w.heap[g]? = some (.cells #[a, b, c, d, e, f, h, i] t)) :
    (w.cell? ⟨g, 0, none⟩ = some a ∧ w.cell? ⟨g, 1, none⟩ = some b ∧ w.cell? ⟨g, 2, none⟩ = some c ∧ w.cell? ⟨g, 3, none⟩ = some d ∧ w.cell? ⟨g, 4, none⟩ = some e ∧ w.cell? ⟨g, 5, none⟩ = some f ∧ w.cell? ⟨g, 6, none⟩ = some h ∧ w.cell? ⟨g, 7, none⟩ = some i) ∧ (w.frozen? ⟨g, 0, none⟩ = false ∧ w.frozen? ⟨g, 1, none⟩ = false ∧ w.frozen? ⟨g, 2, none⟩ = false ∧ w.frozen? ⟨g, 3, none⟩ = false ∧ w.frozen? ⟨g, 4, none⟩ = false ∧ w.frozen? ⟨g, 5, none⟩ = false ∧ w.frozen? ⟨g, 6, none⟩ = false ∧ w.frozen? ⟨g, 7, none⟩ = false) ∧ g < w.heap.size := by
  have hf : ∀ k, w.frozen? ⟨g, k, none⟩ = false := fun k => by simp only [World.frozen?, hx]; simp
  exact ⟨(box8T hx).1, ⟨hf 0, hf 1, hf 2, hf 3, hf 4, hf 5, hf 6, hf 7⟩, (box8T hx).2⟩
theorem gt_list : gtB.toList = [62] := by rw [ByteArray.toList_eq]; rfl
theorem lt_list : ltB.toList = [60] := by rw [ByteArray.toList_eq]; rfl
theorem tl_inj {a b : ByteArray} (h : a.toList = b.toList) : a = b := ba_ext (by rw [← ByteArray.toList_eq, ← ByteArray.toList_eq]; exact h)
theorem gs_drop (ws : List ByteArray) (m k : Nat) : gs (ws.drop m) k = gs ws (m + k) := by simp [gs, List.getD]
theorem gs_size {c : UInt8} {s : ByteArray} {ws : List ByteArray} (h : IsSp c s.data.toList (bl_ ws)) {k : Nat} (hk : k < ws.length) : (gs ws k).size ≤ s.size := by
  have : ∀ {xs : List (List UInt8)} {x : List UInt8}, x ∈ xs → x.length ≤ ([c].intercalate xs).length := by
    intro xs
    induction xs with
    | nil => intro x hx; cases hx
    | cons a r ih =>
      intro x hx
      cases r with
      | nil => rw [inter_one]; simp only [List.mem_singleton] at hx; subst hx; exact Nat.le_refl _
      | cons b r =>
        rw [inter_cons _ (by simp), List.length_append, List.length_cons]
        rcases List.mem_cons.1 hx with e | e
        · subst e; omega
        · have := ih e; omega
  have h1 := this (x := (gs ws k).data.toList) (xs := bl_ ws) (List.mem_map.2 ⟨_, gs_mem hk, rfl⟩)
  rw [h.join, tl_len_, tl_len_] at h1
  exact h1
end Go.Proofs.YtgmppfhokfifgaaGreatDoor
