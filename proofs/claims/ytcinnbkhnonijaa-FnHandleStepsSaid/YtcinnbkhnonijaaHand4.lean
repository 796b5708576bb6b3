/-
  Contracts: ReduceHandle of the program and of the reference.
-/
import Derived.Test.YtcinnbkhnonijaaHand1
import Derived.Deep.RegionHeld3
namespace Go.Proofs.Ytcinnbkhnonijaa
set_option maxRecDepth 10000
open Go.RowKit

/-- What ReduceHandle returns: strands, word, code. -/
def rhA (s : Int) (xs : List Int) (f t : Int) : Int × List Int × Int :=
  if okBr s xs = true then (if isH xs f t = true then (if (hRed xs f.toNat t.toNat).length ≤ 40 then (s, hRed xs f.toNat t.toNat, 0) else (0, [], 5)) else (0, [], 6)) else (0, [], 1)
theorem rhA_len (s : Int) (xs : List Int) (f t : Int) : (rhA s xs f t).2.1.length ≤ 40 := by
  unfold rhA
  split
  · split
    · split
      · assumption
      · simp
    · simp
  · simp
theorem isH_f {xs : List Int} {f t : Int} (h : isH xs f t = true) : ∃ a k : Nat, f = a ∧ t = k ∧ a < k ∧ k < xs.length := by
  simp only [isH, Bool.and_eq_true, decide_eq_true_eq] at h
  obtain ⟨⟨h1, h2⟩, h3⟩ := h
  have h1' := inR_iff.1 h1
  have := hTo_bd xs t.toNat
  exact ⟨f.toNat, t.toNat, by omega, by omega, by omega, by omega⟩
theorem alloc_at (w : World) (cs : Array Value) (t : TypeId) (g : Nat) (h : g = w.heap.size) : (w.alloc (.cells cs t)).heap[g]? = some (.cells cs t) := by
  subst h; unfold World.alloc; simp only []; rw [Array.getElem?_push_size]
theorem rh_cells (w : World) (s f t : Int) (v : Value) : let W := ((w.alloc (.cells #[.int .i64 s, v] 26)).alloc (.cells #[.int .i64 f, .int .i64 t] 39)).alloc (.cells #[.int .i64 0, .slice none 0 0] 26)
    W.cell? ⟨w.heap.size, 0, none⟩ = some (.int .i64 s) ∧ W.cell? ⟨w.heap.size, 1, none⟩ = some v ∧ W.cell? ⟨w.heap.size + 1, 0, none⟩ = some (.int .i64 f) ∧ W.cell? ⟨w.heap.size + 1, 1, none⟩ = some (.int .i64 t) ∧
      W.cell? ⟨w.heap.size + 1 + 1, 0, none⟩ = some (.int .i64 0) ∧ W.cell? ⟨w.heap.size + 1 + 1, 1, none⟩ = some (.slice none 0 0) ∧ (∀ k, W.frozen? ⟨w.heap.size + 1 + 1, k, none⟩ = false) ∧ W.heap.size = w.heap.size + 1 + 1 + 1 := by
  intro W
  refine ⟨by rw [World.cell?_alloc_lt _ _ _ (by simp; omega), World.cell?_alloc_lt _ _ _ (by simp)]; simp, by rw [World.cell?_alloc_lt _ _ _ (by simp; omega), World.cell?_alloc_lt _ _ _ (by simp)]; simp,
    by rw [World.cell?_alloc_lt _ _ _ (by simp)]; simp, by rw [World.cell?_alloc_lt _ _ _ (by simp)]; simp, cell_of_row _ _ 0 _ _ (0, 0) (alloc_at _ _ _ _ (by simp)), cell_of_row _ _ 1 _ _ (0, 0) (alloc_at _ _ _ _ (by simp)), fun k => by simp only [World.frozen?, W, alloc_at _ _ _ _ (show w.heap.size + 1 + 1 = ((w.alloc (.cells #[.int .i64 s, v] 26)).alloc (.cells #[.int .i64 f, .int .i64 t] 39)).heap.size by simp)]; simp, by simp [W]⟩
/-- What is known of the result's cells in a later world. -/
theorem rh_later {W w1 : World} {g : Nat} (hb : Below W.heap.size W w1) (c0 : W.cell? ⟨g, 0, none⟩ = some (.int .i64 0)) (c1 : W.cell? ⟨g, 1, none⟩ = some (.slice none 0 0)) (hf : ∀ k, W.frozen? ⟨g, k, none⟩ = false) :
    w1.cell? ⟨g, 0, none⟩ = some (.int .i64 0) ∧ w1.cell? ⟨g, 1, none⟩ = some (.slice none 0 0) ∧ w1.frozen? ⟨g, 0, none⟩ = false ∧ w1.frozen? ⟨g, 1, none⟩ = false ∧ g < w1.heap.size := by
  have hg := block_lt_of_cell c0
  obtain ⟨hc, hf'⟩ := bcell hb
  exact ⟨by rw [hc _ _ hg]; exact c0, by rw [hc _ _ hg]; exact c1, by rw [hf' _ _ hg]; exact hf 0, by rw [hf' _ _ hg]; exact hf 1, Nat.lt_of_lt_of_le hg hb.size⟩
set_option maxHeartbeats 3200000 in
theorem impl_ReduceHandle_any (s f t : Int) (v : Value) (xs : List Int) (B : Nat) (w : World) (h : Sl w B v xs) (hB : B ≤ w.heap.size) (hf64 : -9223372036854775808 ≤ f ∧ f ≤ 9223372036854775807) :
    Calls Try.prog 18 #[.agg #[.int .i64 s, v], .agg #[.int .i64 f, .int .i64 t]] w fun e w' => ∃ r, e = .returned (.tuple #[.agg #[.int .i64 (rhA s xs f t).1, r], .int .i64 (rhA s xs f t).2.2]) ∧ Ow w' w.heap.size w'.heap.size r (rhA s xs f t).2.1 ∧ Below w.heap.size w w' := by
  obtain ⟨A, c, rfl, hl, hm, -⟩ := id h
  have hA : Below w.heap.size w (((w.alloc (.cells #[.int .i64 s, .slice A xs.length c] 26)).alloc (.cells #[.int .i64 f, .int .i64 t] 39)).alloc (.cells #[.int .i64 0, .slice none 0 0] 26)) := (al2 _ _ _).alloc (by simp; omega) _
  obtain ⟨k0, k1, k2, k3, k4, k5, k6, k7⟩ := rh_cells w s f t (.slice A xs.length c)
  have hs := h.below hA hB
  have hB1 := Nat.le_trans hB hA.size
  cases hok : okBr s xs
  · have H1 := Lib.hid (show rhA s xs f t = (0, [], 1) by simp [rhA, hok])
    go_enter Try.func18, Try.ntmps18
    go_wp2_with fail
    refine (impl_ValidBraid_any _ _ xs B _ hs hB1).mono ?_
    rintro e w1 ⟨rfl, hb⟩
    obtain ⟨c0, c1, f0, f1, hz⟩ := rh_later hb k4 k5 k6
    obtain ⟨e0, e1, e2⟩ := two_sets w1 (w.heap.size + 1 + 1) (.int .i64 0) (.slice none 0 0) c0 c1
    go_wp2_with fail
    refine bodyPost_ret (v := .tuple #[.agg #[.int .i64 0, .slice none 0 0], .int .i64 1]) (by simp [results, Try.results18, go_sem, e1, e2]) rfl ?_
    exact ⟨_, by rw [H1.out], by rw [H1.out]; exact Ow.nil _ _ _, set_below (by simp; omega) (set_below (by simp; omega) (hA.trans (hb.mono hA.size)))⟩
  · cases hih : isH xs f t
    · have H1 := Lib.hid (show rhA s xs f t = (0, [], 6) by simp [rhA, hok, hih])
      have H2 := Lib.hid (show (okBr s xs && isH xs f t) = false by rw [hok, hih]; rfl)
      go_enter Try.func18, Try.ntmps18
      go_wp2_with fail
      refine (impl_ValidBraid_any _ _ xs B _ hs hB1).mono ?_
      rintro e w1 ⟨rfl, hb⟩
      obtain ⟨hc, hf⟩ := bcell hb
      have hz1 : w.heap.size + 1 + 1 < w1.heap.size := by have := hb.size; simp at this; omega
      have hz2 : w.heap.size + 1 < w1.heap.size := by omega
      have hz3 : w.heap.size < w1.heap.size := by omega
      go_wp2_with fail
      clear hc hf
      refine (is_below H2.out (impl_IsHandle_any s _ xs f t B _ (hs.below hb hB1) (Nat.le_trans hB1 hb.size) hf64)).mono ?_
      rintro e w2 ⟨rfl, hb2⟩
      have hbb := hb.trans (hb2.mono hb.size)
      obtain ⟨c0, c1, f0, f1, hz⟩ := rh_later hbb k4 k5 k6
      obtain ⟨e0, e1, e2⟩ := two_sets w2 (w.heap.size + 1 + 1) (.int .i64 0) (.slice none 0 0) c0 c1
      go_wp2_with fail
      refine bodyPost_ret (v := .tuple #[.agg #[.int .i64 0, .slice none 0 0], .int .i64 6]) (by simp [results, Try.results18, go_sem, e1, e2]) rfl ?_
      exact ⟨_, by rw [H1.out], by rw [H1.out]; exact Ow.nil _ _ _, set_below (by simp; omega) (set_below (by simp; omega) (hA.trans (hbb.mono hA.size)))⟩
    · have H2 := Lib.hid (show (okBr s xs && isH xs f t) = true by rw [hok, hih]; rfl)
      obtain ⟨a, k, rfl, rfl, hak, hkl⟩ := isH_f hih
      have HL := Lib.hid (okBr_lt hok)
      have hln := (okBr_parts hok).2.2.1
      by_cases hl4 : (hRed xs a k).length ≤ 40
      · have H1 := Lib.hid (show rhA s xs a k = (s, hRed xs a k, 0) by simp [rhA, hok, hih, hl4])
        have hli : ¬ 40 < ((hRed xs a k).length : Int) := by omega
        go_enter Try.func18, Try.ntmps18
        go_wp2_with fail
        refine (impl_ValidBraid_any _ _ xs B _ hs hB1).mono ?_
        rintro e w1 ⟨rfl, hb⟩
        obtain ⟨hc, hf⟩ := bcell hb
        have hz1 : w.heap.size + 1 + 1 < w1.heap.size := by have := hb.size; simp at this; omega
        have hz2 : w.heap.size + 1 < w1.heap.size := by omega
        have hz3 : w.heap.size < w1.heap.size := by omega
        go_wp2_with fail
        clear hc hf
        refine (is_below H2.out (impl_IsHandle_any s _ xs a k B _ (hs.below hb hB1) (Nat.le_trans hB1 hb.size) hf64)).mono ?_
        rintro e w2 ⟨rfl, hb2⟩
        have hbb := hb.trans (hb2.mono hb.size)
        obtain ⟨hc, hf⟩ := bcell hbb
        have hz4 : w.heap.size + 1 + 1 < w2.heap.size := by have := hb2.size; omega
        have hz5 : w.heap.size + 1 < w2.heap.size := by omega
        have hz6 : w.heap.size < w2.heap.size := by omega
        go_wp2_with fail
        clear hc hf
        refine (withoutHandle_any _ xs B a k _ (hs.below hbb hB1) (Nat.le_trans hB1 hbb.size) HL.out hak hkl (by omega)).mono ?_
        rintro e w3 ⟨r3, rfl, ho3, hb3⟩
        have hb4 := hbb.trans (hb3.mono hbb.size)
        obtain ⟨A3, c3, rfl, -⟩ := id (ho3.sl (Nat.le_refl _))
        obtain ⟨c0, c1, f0, f1, hz⟩ := rh_later hb4 k4 k5 k6
        obtain ⟨hc, hf⟩ := bcell hb4
        obtain ⟨e0, e1, e2⟩ := two_sets w3 (w.heap.size + 1 + 1) (.int .i64 s) (.slice A3 (hRed xs a k).length c3) c0 c1
        go_wp2_with fail
        refine bodyPost_ret (v := .tuple #[.agg #[.int .i64 s, .slice A3 (hRed xs a k).length c3], .int .i64 0]) (by simp [results, Try.results18, go_sem, e1, e2]) rfl ?_
        refine ⟨_, by rw [H1.out], ?_, set_below (by simp; omega) (set_below (by simp; omega) (hA.trans (hb4.mono hA.size)))⟩
        rw [H1.out]
        refine (ho3.keep fun j h1 h2 => ?_).mono (by omega) (by simp [World.setCell])
        rw [Below.heap_setCell _ _ _ _ (by simp only; omega), Below.heap_setCell _ _ _ _ (by simp only; omega)]
      · have H1 := Lib.hid (show rhA s xs a k = (0, [], 5) by simp [rhA, hok, hih, hl4])
        have hli : 40 < ((hRed xs a k).length : Int) := by omega
        go_enter Try.func18, Try.ntmps18
        go_wp2_with fail
        refine (impl_ValidBraid_any _ _ xs B _ hs hB1).mono ?_
        rintro e w1 ⟨rfl, hb⟩
        obtain ⟨hc, hf⟩ := bcell hb
        have hz1 : w.heap.size + 1 + 1 < w1.heap.size := by have := hb.size; simp at this; omega
        have hz2 : w.heap.size + 1 < w1.heap.size := by omega
        have hz3 : w.heap.size < w1.heap.size := by omega
        go_wp2_with fail
        clear hc hf
        refine (is_below H2.out (impl_IsHandle_any s _ xs a k B _ (hs.below hb hB1) (Nat.le_trans hB1 hb.size) hf64)).mono ?_
        rintro e w2 ⟨rfl, hb2⟩
        have hbb := hb.trans (hb2.mono hb.size)
        obtain ⟨hc, hf⟩ := bcell hbb
        have hz4 : w.heap.size + 1 + 1 < w2.heap.size := by have := hb2.size; omega
        have hz5 : w.heap.size + 1 < w2.heap.size := by omega
        have hz6 : w.heap.size < w2.heap.size := by omega
        go_wp2_with fail
        clear hc hf
        refine (withoutHandle_any _ xs B a k _ (hs.below hbb hB1) (Nat.le_trans hB1 hbb.size) HL.out hak hkl (by omega)).mono ?_
        rintro e w3 ⟨r3, rfl, ho3, hb3⟩
        have hb4 := hbb.trans (hb3.mono hbb.size)
        obtain ⟨A3, c3, rfl, -⟩ := id (ho3.sl (Nat.le_refl _))
        obtain ⟨c0, c1, f0, f1, hz⟩ := rh_later hb4 k4 k5 k6
        obtain ⟨e0, e1, e2⟩ := two_sets w3 (w.heap.size + 1 + 1) (.int .i64 0) (.slice none 0 0) c0 c1
        go_wp2_with fail
        refine bodyPost_ret (v := .tuple #[.agg #[.int .i64 0, .slice none 0 0], .int .i64 5]) (by simp [results, Try.results18, go_sem, e1, e2]) rfl ?_
        exact ⟨_, by rw [H1.out], by rw [H1.out]; exact Ow.nil _ _ _, set_below (by simp; omega) (set_below (by simp; omega) (hA.trans (hb4.mono hA.size)))⟩
end Go.Proofs.Ytcinnbkhnonijaa
