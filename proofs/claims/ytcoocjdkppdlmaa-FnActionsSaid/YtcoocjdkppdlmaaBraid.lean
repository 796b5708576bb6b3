/-
  Contracts: the laws' helpers for braids and handles.
-/
import Derived.Test.YtcoocjdkppdlmaaInts
import Derived.Test.YtcoocjdkppdlmaaSmall
namespace Go.Proofs.Ytcoocjdkppdlmaa
set_option maxRecDepth 10000
open Go.RowKit

theorem chg_below {w w' : World} {lo hi : Nat} (h : Below w.heap.size w w') : Chg lo hi w w' := ⟨h.os, h.tape, h.output, h.size, fun k hk _ => h.block k hk⟩
theorem cell_mid (w : World) (o : Obj) (cs : Array Value) (t : TypeId) (o2 : Obj) (i : Nat) : (((w.alloc o).alloc (.cells cs t)).alloc o2).cell? ⟨w.heap.size + 1, i, none⟩ = cs[i]? := by
  have h := World.cell?_alloc_new (w.alloc o) cs t i
  rw [show (w.alloc o).heap.size = w.heap.size + 1 by simp] at h
  rw [World.cell?_alloc_lt _ _ _ (by simp)]
  exact h
theorem three_sets (w1 : World) (g k : Nat) (u0 u1 x y z : Value) (hne : g ≠ k) (h0 : w1.cell? ⟨g, 0, none⟩ = some u0) (h1 : w1.cell? ⟨g, 1, none⟩ = some u1) :
    ((w1.setCell ⟨k, 1, none⟩ z).setCell ⟨g, 0, none⟩ x).cell? ⟨g, 0, none⟩ = some x ∧
    (((w1.setCell ⟨k, 1, none⟩ z).setCell ⟨g, 0, none⟩ x).setCell ⟨g, 1, none⟩ y).cell? ⟨g, 0, none⟩ = some x ∧
    (((w1.setCell ⟨k, 1, none⟩ z).setCell ⟨g, 0, none⟩ x).setCell ⟨g, 1, none⟩ y).cell? ⟨g, 1, none⟩ = some y ∧
    ∀ b, b ≠ g → b ≠ k → (((w1.setCell ⟨k, 1, none⟩ z).setCell ⟨g, 0, none⟩ x).setCell ⟨g, 1, none⟩ y).heap[b]? = w1.heap[b]? := by
  have a0 : ((w1.setCell ⟨k, 1, none⟩ z).setCell ⟨g, 0, none⟩ x).cell? ⟨g, 0, none⟩ = some x := by
    apply World.cell?_setCell_same
    rw [World.cell?_setCell_other]
    · exact h0
    · intro e; injection e with e1; exact hne e1.symm
  have a1 : ((w1.setCell ⟨k, 1, none⟩ z).setCell ⟨g, 0, none⟩ x).cell? ⟨g, 1, none⟩ = some u1 := by
    rw [World.cell?_setCell_other, World.cell?_setCell_other]
    · exact h1
    · intro e; injection e with e1; exact hne e1.symm
    · intro e; injection e with e1 e2; cases e2
  refine ⟨a0, ?_, World.cell?_setCell_same _ _ _ a1, fun b hb hk => ?_⟩
  · rw [World.cell?_setCell_other]
    · exact a0
    · intro e; injection e with e1 e2; cases e2
  · rw [Below.heap_setCell _ _ _ _ hb, Below.heap_setCell _ _ _ _ hb, Below.heap_setCell _ _ _ _ hk]
theorem three_below {w w1 : World} {g k : Nat} {x y z : Value} (hg : w.heap.size ≤ g) (hk : w.heap.size ≤ k) (h : Below w.heap.size w w1) :
    Below w.heap.size w (((w1.setCell ⟨k, 1, none⟩ z).setCell ⟨g, 0, none⟩ x).setCell ⟨g, 1, none⟩ y) :=
  ⟨h.os, h.tape, h.output, by simpa [World.setCell] using h.size, fun b hb => by
    rw [Below.heap_setCell _ _ _ _ (by simp only; omega), Below.heap_setCell _ _ _ _ (by simp only; omega), Below.heap_setCell _ _ _ _ (by simp only; omega)]; exact h.block b hb⟩
set_option maxHeartbeats 400000 in
theorem toBraid_any (s : Int) (v : Value) (xs : List Int) (B : Nat) (w : World) (h : Sl w B v xs) (hB : B ≤ w.heap.size) (hsz : xs.length ≤ 1048576) :
    Calls Try.prog 24 #[.agg #[.int .i64 s, v]] w fun e w' => ∃ r, e = .returned (.agg #[.int .i64 s, r]) ∧ Ow w' w.heap.size w'.heap.size r xs ∧ Below w.heap.size w w' := by
  obtain ⟨A, c, rfl, hl, hm⟩ : ∃ A c, v = .slice A xs.length c ∧ xs.length ≤ c ∧ c ≤ 9223372036854775807 := by obtain ⟨A, c, h1, h2, h3, _⟩ := id h; simp only [maxLen] at h3; exact ⟨A, c, h1, h2, by omega⟩
  have hA : Below w.heap.size w (((w.alloc (.cells #[.int .i64 s, .slice A xs.length c] 37)).alloc (.cells #[.int .i64 0, .slice none 0 0] 41)).alloc (.cells #[.int .i64 s, .slice none 0 0] 41)) := (al2 _ _ _).alloc (by simp; omega) _
  go_enter Try.func24, Try.ntmps24
  go_wp2_with fail
  refine (toInts_any _ xs B _ (h.below hA hB) (Nat.le_trans hB hA.size) hsz).mono ?_
  rintro e w1 ⟨r, rfl, ho, hb⟩
  obtain ⟨hc, hf⟩ := bcell hb
  have hz : w.heap.size + 1 + 1 < w1.heap.size := by have := hb.size; simp at this; omega
  have hz1 : w.heap.size + 1 < w1.heap.size := by omega
  have q0 : w1.cell? ⟨w.heap.size + 1, 0, none⟩ = some (.int .i64 0) := by rw [hc _ _ (by simp)]; exact cell_mid _ _ _ _ _ _
  have q1 : w1.cell? ⟨w.heap.size + 1, 1, none⟩ = some (.slice none 0 0) := by rw [hc _ _ (by simp)]; exact cell_mid _ _ _ _ _ _
  obtain ⟨A2, c2, rfl, -⟩ := id (ho.sl (Nat.le_refl _))
  go_wp2_with fail
  obtain ⟨e0, e1, e2, e3⟩ := three_sets w1 (w.heap.size + 1) (w.heap.size + 1 + 1) _ _ (.int .i64 s) (.slice A2 xs.length c2) (.slice A2 xs.length c2) (by omega) q0 q1
  refine bodyPost_ret (v := .agg #[.int .i64 s, .slice A2 xs.length c2]) (by simp [results, Try.results24, go_sem, e1, e2]) rfl ?_
  refine ⟨_, rfl, ?_, three_below (by omega) (by omega) ((hA.trans (hb.mono hA.size)))⟩
  have hs1 : (((w1.setCell ⟨w.heap.size + 1 + 1, 1, none⟩ (.slice A2 xs.length c2)).setCell ⟨w.heap.size + 1, 0, none⟩ (.int .i64 s)).setCell ⟨w.heap.size + 1, 1, none⟩ (.slice A2 xs.length c2)).heap.size = w1.heap.size := by simp [World.setCell]
  exact (ho.keep fun k h1 h2 => e3 k (by simp at h1; omega) (by simp at h1; omega)).mono hA.size (by rw [hs1]; exact Nat.le_refl _)
/-- A braid of the call's own. -/
def br (q : Value) (s : Int) (xs : List Int) : Item := ⟨fun w lo hi => ∃ v, q = .agg #[.int .i64 s, v] ∧ Ow w lo hi v xs, fun ⟨v, hq, h⟩ hk => ⟨v, hq, h.keep hk⟩⟩
theorem st_br {w w' : World} {s : Int} {v : Value} {xs : List Int} (h : Ow w' w.heap.size w'.heap.size v xs) (hb : Below w.heap.size w w') : St w' w.heap.size [br (.agg #[.int .i64 s, v]) s xs] :=
  St.one (t := br _ s xs) ⟨v, rfl, h⟩ hb.size (Nat.le_refl _)
set_option maxHeartbeats 800000 in
theorem eqBraid_yes {s : Int} {v1 v2 : Value} {xs : List Int} {B1 B2 : Nat} {w : World} (h1 : Sl w B1 v1 xs) (h2 : Sl w B2 v2 xs) (hB1 : B1 ≤ w.heap.size) (hB2 : B2 ≤ w.heap.size) :
    Calls Try.prog 26 #[.agg #[.int .i64 s, v1], .agg #[.int .i64 s, v2]] w fun e w' => e = .returned (.bool true) ∧ Below w.heap.size w w' := by
  obtain ⟨A, c, rfl, -⟩ := id h1
  obtain ⟨A2, c2, rfl, -⟩ := id h2
  go_enter Try.func26, Try.ntmps26
  go_wp2_with fail
  refine (eqInts_yes (h1.below (al2 _ _ _) hB1) (h2.below (al2 _ _ _) hB2) rfl).mono ?_
  rintro e w1 ⟨rfl, hb⟩
  go_wp2_with fail
  go_ret
  exact ⟨rfl, (al2 _ _ _).trans (hb.mono (by simp; omega))⟩
set_option maxHeartbeats 800000 in
theorem markBraid_any (s : Int) (v : Value) (xs : List Int) (lo hi : Nat) (c : Int) (w : World) (h : Ow w lo hi v xs) (hh : hi ≤ w.heap.size) (hsz : xs.length ≤ 67108864) (hc0 : 0 ≤ c) (hc1 : c ≤ 1073741824) :
    Calls Try.prog 27 #[.agg #[.int .i64 s, v], .int .i64 c] w fun e w' => e = .returned (.int .i64 (c + xs.length)) ∧ Ow w' lo hi v (countFrom c xs.length) ∧ Chg lo hi w w' := by
  obtain ⟨A, c2, rfl, -⟩ := id (h.sl (Nat.le_refl _))
  go_enter Try.func27, Try.ntmps27
  go_wp2_with fail
  refine (markInts_any _ xs lo hi c _ (h.al hh _) hsz hc0 hc1).mono ?_
  rintro e w1 ⟨rfl, ho, hb⟩
  go_wp2_with fail
  go_ret
  exact ⟨rfl, ho, (chg_below (al1 _ _)).trans hb⟩
set_option maxHeartbeats 400000 in
theorem szInts_any {v : Value} {xs : List Int} {B : Nat} {left : Int} {w : World} (h : Sl w B v xs) (h1 : left ≤ 1048576) (h0 : 0 ≤ left) :
    Calls Try.prog 46 #[v, .int .i64 left] w fun e w' => e = .returned (.int .i64 (if left < xs.length then -1 else left - xs.length)) ∧ w = w' := by
  obtain ⟨A, c, rfl, hl, hm, -⟩ := id h
  unfold maxLen at hm
  by_cases hc : left < xs.length
  · have hc1 : left - xs.length < 0 := by omega
    go_enter Try.func46, Try.ntmps46
    go_wp2
    go_ret
    exact ⟨rfl, rfl⟩
  · have hc1 : ¬ left - xs.length < 0 := by omega
    go_enter Try.func46, Try.ntmps46
    go_wp2
    go_ret
    exact ⟨rfl, rfl⟩
set_option maxHeartbeats 400000 in
theorem szBraid_no {s : Int} {v : Value} {xs : List Int} {B : Nat} {left : Int} {w : World} (h : Sl w B v xs) (hB : B ≤ w.heap.size) (h1 : left ≤ 1048576) (h0 : 0 ≤ left) (hc : left < xs.length) :
    Calls Try.prog 22 #[.agg #[.int .i64 s, v], .int .i64 left] w fun e w' => e = .returned (.int .i64 (-1)) ∧ Below w.heap.size w w' := by
  obtain ⟨A, c, rfl, hl, hm, -⟩ := id h
  unfold maxLen at hm
  have hs := h.below (al1 w (.cells #[.int .i64 s, .slice A xs.length c] 37)) hB
  go_enter Try.func22, Try.ntmps22
  go_wp2_with (go_at_call 46; refine (szInts_any hs h1 h0).mono ?_; rintro e w' ⟨rfl, rfl⟩; rw [if_pos hc])
  go_ret
  exact ⟨rfl, al1 _ _⟩
set_option maxHeartbeats 400000 in
theorem szBraid_yes {s : Int} {v : Value} {xs : List Int} {B : Nat} {left : Int} {w : World} (h : Sl w B v xs) (hB : B ≤ w.heap.size) (h1 : left ≤ 1048576) (h0 : 0 ≤ left) (hc : ¬ left < xs.length) :
    Calls Try.prog 22 #[.agg #[.int .i64 s, v], .int .i64 left] w fun e w' => e = .returned (.int .i64 (left - xs.length)) ∧ Below w.heap.size w w' := by
  obtain ⟨A, c, rfl, hl, hm, -⟩ := id h
  unfold maxLen at hm
  have hs := h.below (al1 w (.cells #[.int .i64 s, .slice A xs.length c] 37)) hB
  have hc1 : ¬ left - xs.length < 0 := by omega
  go_enter Try.func22, Try.ntmps22
  go_wp2_with (go_at_call 46; refine (szInts_any hs h1 h0).mono ?_; rintro e w' ⟨rfl, rfl⟩; rw [if_neg hc])
  go_ret
  exact ⟨rfl, al1 _ _⟩
end Go.Proofs.Ytcoocjdkppdlmaa
