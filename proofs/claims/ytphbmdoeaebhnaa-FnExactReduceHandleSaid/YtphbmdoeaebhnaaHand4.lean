/-
  Contracts: ReduceHandle of the program and of the reference.
-/
import Derived.Test.YtphbmdoeaebhnaaHand1
import Derived.Deep.RegionHeld3
namespace Go.Proofs.Ytphbmdoeaebhnaa
open Go.RowKit

/-- What ReduceHandle returns: strands, word, code. -/
def rhA (s : Int) (xs : List Int) (f t : Int) : Int × List Int × Int :=
  if okBr s xs = true then (if isH xs f t = true then (if (hRed xs f.toNat t.toNat).length ≤ 40 then (s, hRed xs f.toNat t.toNat, 0) else (0, [], 5)) else (0, [], 6)) else (0, [], 1)
theorem rhA_len (s : Int) (xs : List Int) (f t : Int) : (rhA s xs f t).2.1.length ≤ 40 := by
  unfold rhA
  split
  · split
    · split
      · assumption
      · simp
    · simp
  · simp
theorem isH_f {xs : List Int} {f t : Int} (h : isH xs f t = true) : ∃ a k : Nat, f = a ∧ t = k ∧ a < k ∧ k < xs.length := by
  simp only [isH, Bool.and_eq_true, decide_eq_true_eq] at h
  obtain ⟨⟨h1, h2⟩, h3⟩ := h
  have h1' := inR_iff.1 h1
  have := hTo_bd xs t.toNat
  exact ⟨f.toNat, t.toNat, by omega, by omega, by omega, by omega⟩
theorem alloc_at (w : World) (cs : Array Value) (t : TypeId) (g : Nat) (h : g = w.heap.size) : (w.alloc (.cells cs t)).heap[g]? = some (.cells cs t) := by
  subst h; unfold World.alloc; simp only []; rw [Array.getElem?_push_size]
theorem rh_cells (w : World) (s f t : Int) (v : Value) : let W := ((w.alloc (.cells #[.int .i64 s, v] 40)).alloc (.cells #[.int .i64 f, .int .i64 t] 42)).alloc (.cells #[.int .i64 0, .slice none 0 0] 40)
    W.cell? ⟨w.heap.size, 0, none⟩ = some (.int .i64 s) ∧ W.cell? ⟨w.heap.size, 1, none⟩ = some v ∧ W.cell? ⟨w.heap.size + 1, 0, none⟩ = some (.int .i64 f) ∧ W.cell? ⟨w.heap.size + 1, 1, none⟩ = some (.int .i64 t) ∧
      W.cell? ⟨w.heap.size + 1 + 1, 0, none⟩ = some (.int .i64 0) ∧ W.cell? ⟨w.heap.size + 1 + 1, 1, none⟩ = some (.slice none 0 0) ∧ (∀ k, W.frozen? ⟨w.heap.size + 1 + 1, k, none⟩ = false) ∧ W.heap.size = w.heap.size + 1 + 1 + 1 := by
  intro W
  refine ⟨by rw [World.cell?_alloc_lt _ _ _ (by simp; omega), World.cell?_alloc_lt _ _ _ (by simp)]; simp, by rw [World.cell?_alloc_lt _ _ _ (by simp; omega), World.cell?_alloc_lt _ _ _ (by simp)]; simp,
    by rw [World.cell?_alloc_lt _ _ _ (by simp)]; simp, by rw [World.cell?_alloc_lt _ _ _ (by simp)]; simp, cell_of_row _ _ 0 _ _ (0, 0) (alloc_at _ _ _ _ (by simp)), cell_of_row _ _ 1 _ _ (0, 0) (alloc_at _ _ _ _ (by simp)), fun k => by simp only [World.frozen?, W, alloc_at _ _ _ _ (show w.heap.size + 1 + 1 = ((w.alloc (.cells #[.int .i64 s, v] 40)).alloc (.cells #[.int .i64 f, .int .i64 t] 42)).heap.size by simp)]; simp, by simp [W]⟩
/-- What is known of the result's cells in a later world. -/
theorem rh_later {W w1 : World} {g : Nat} (hb : Below W.heap.size W w1) (c0 : W.cell? ⟨g, 0, none⟩ = some (.int .i64 0)) (c1 : W.cell? ⟨g, 1, none⟩ = some (.slice none 0 0)) (hf : ∀ k, W.frozen? ⟨g, k, none⟩ = false) :
    w1.cell? ⟨g, 0, none⟩ = some (.int .i64 0) ∧ w1.cell? ⟨g, 1, none⟩ = some (.slice none 0 0) ∧ w1.frozen? ⟨g, 0, none⟩ = false ∧ w1.frozen? ⟨g, 1, none⟩ = false ∧ g < w1.heap.size := by
  have hg := block_lt_of_cell c0
  obtain ⟨hc, hf'⟩ := bcell hb
  exact ⟨by rw [hc _ _ hg]; exact c0, by rw [hc _ _ hg]; exact c1, by rw [hf' _ _ hg]; exact hf 0, by rw [hf' _ _ hg]; exact hf 1, Nat.lt_of_lt_of_le hg hb.size⟩
set_option maxHeartbeats 3200000 in
theorem impl_ReduceHandle_any (s f t : Int) (v : Value) (xs : List Int) (B : Nat) (w : World) (h : Sl w B v xs) (hB : B ≤ w.heap.size) (hf64 : -9223372036854775808 ≤ f ∧ f ≤ 9223372036854775807) :
    Calls Try.prog 37 #[.agg #[.int .i64 s, v], .agg #[.int .i64 f, .int .i64 t]] w fun e w' => ∃ r, e = .returned (.tuple #[.agg #[.int .i64 (rhA s xs f t).1, r], .int .i64 (rhA s xs f t).2.2]) ∧ Ow w' w.heap.size w'.heap.size r (rhA s xs f t).2.1 ∧ Below w.heap.size w w' := by
  obtain ⟨A, c, rfl, hl, hm, -⟩ := id h
  have hA : Below w.heap.size w (((w.alloc (.cells #[.int .i64 s, .slice A xs.length c] 40)).alloc (.cells #[.int .i64 f, .int .i64 t] 42)).alloc (.cells #[.int .i64 0, .slice none 0 0] 40)) := (al2 _ _ _).alloc (by simp; omega) _
  obtain ⟨k0, k1, k2, k3, k4, k5, k6, k7⟩ := rh_cells w s f t (.slice A xs.length c)
  have hs := h.below hA hB
  have hB1 := Nat.le_trans hB hA.size
  cases hok : okBr s xs
  · have H1 := Lib.hid (show rhA s xs f t = (0, [], 1) by simp [rhA, hok])
    go_enter Try.func37, Try.ntmps37
    go_wp2_with fail
    refine (impl_ValidBraid_any _ _ xs B _ hs hB1).mono ?_
    rintro e w1 ⟨rfl, hb⟩
    obtain ⟨c0, c1, f0, f1, hz⟩ := rh_later hb k4 k5 k6
    obtain ⟨e0, e1, e2⟩ := two_sets w1 (w.heap.size + 1 + 1) (.int .i64 0) (.slice none 0 0) c0 c1
    go_wp2_with fail
    refine bodyPost_ret (v := .tuple #[.agg #[.int .i64 0, .slice none 0 0], .int .i64 1]) (by simp [results, Try.results37, go_sem, e1, e2]) rfl ?_
    exact ⟨_, by rw [H1.out], by rw [H1.out]; exact Ow.nil _ _ _, set_below (by simp; omega) (set_below (by simp; omega) (hA.trans (hb.mono hA.size)))⟩
  · cases hih : isH xs f t
    · have H1 := Lib.hid (show rhA s xs f t = (0, [], 6) by simp [rhA, hok, hih])
      have H2 := Lib.hid (show (okBr s xs && isH xs f t) = false by rw [hok, hih]; rfl)
      go_enter Try.func37, Try.ntmps37
      go_wp2_with fail
      refine (impl_ValidBraid_any _ _ xs B _ hs hB1).mono ?_
      rintro e w1 ⟨rfl, hb⟩
      obtain ⟨hc, hf⟩ := bcell hb
      have hz1 : w.heap.size + 1 + 1 < w1.heap.size := by have := hb.size; simp at this; omega
      have hz2 : w.heap.size + 1 < w1.heap.size := by omega
      have hz3 : w.heap.size < w1.heap.size := by omega
      go_wp2_with fail
      clear hc hf
      refine (is_below H2.out (impl_IsHandle_any s _ xs f t B _ (hs.below hb hB1) (Nat.le_trans hB1 hb.size) hf64)).mono ?_
      rintro e w2 ⟨rfl, hb2⟩
      have hbb := hb.trans (hb2.mono hb.size)
      obtain ⟨c0, c1, f0, f1, hz⟩ := rh_later hbb k4 k5 k6
      obtain ⟨e0, e1, e2⟩ := two_sets w2 (w.heap.size + 1 + 1) (.int .i64 0) (.slice none 0 0) c0 c1
      go_wp2_with fail
      refine bodyPost_ret (v := .tuple #[.agg #[.int .i64 0, .slice none 0 0], .int .i64 6]) (by simp [results, Try.results37, go_sem, e1, e2]) rfl ?_
      exact ⟨_, by rw [H1.out], by rw [H1.out]; exact Ow.nil _ _ _, set_below (by simp; omega) (set_below (by simp; omega) (hA.trans (hbb.mono hA.size)))⟩
    · have H2 := Lib.hid (show (okBr s xs && isH xs f t) = true by rw [hok, hih]; rfl)
      obtain ⟨a, k, rfl, rfl, hak, hkl⟩ := isH_f hih
      have HL := Lib.hid (okBr_lt hok)
      have hln := (okBr_parts hok).2.2.1
      by_cases hl4 : (hRed xs a k).length ≤ 40
      · have H1 := Lib.hid (show rhA s xs a k = (s, hRed xs a k, 0) by simp [rhA, hok, hih, hl4])
        have hli : ¬ 40 < ((hRed xs a k).length : Int) := by omega
        go_enter Try.func37, Try.ntmps37
        go_wp2_with fail
        refine (impl_ValidBraid_any _ _ xs B _ hs hB1).mono ?_
        rintro e w1 ⟨rfl, hb⟩
        obtain ⟨hc, hf⟩ := bcell hb
        have hz1 : w.heap.size + 1 + 1 < w1.heap.size := by have := hb.size; simp at this; omega
        have hz2 : w.heap.size + 1 < w1.heap.size := by omega
        have hz3 : w.heap.size < w1.heap.size := by omega
        go_wp2_with fail
        clear hc hf
        refine (is_below H2.out (impl_IsHandle_any s _ xs a k B _ (hs.below hb hB1) (Nat.le_trans hB1 hb.size) hf64)).mono ?_
        rintro e w2 ⟨rfl, hb2⟩
        have hbb := hb.trans (hb2.mono hb.size)
        obtain ⟨hc, hf⟩ := bcell hbb
        have hz4 : w.heap.size + 1 + 1 < w2.heap.size := by have := hb2.size; omega
        have hz5 : w.heap.size + 1 < w2.heap.size := by omega
        have hz6 : w.heap.size < w2.heap.size := by omega
        go_wp2_with fail
        clear hc hf
        refine (withoutHandle_any _ xs B a k _ (hs.below hbb hB1) (Nat.le_trans hB1 hbb.size) HL.out hak hkl (by omega)).mono ?_
        rintro e w3 ⟨r3, rfl, ho3, hb3⟩
        have hb4 := hbb.trans (hb3.mono hbb.size)
        obtain ⟨A3, c3, rfl, -⟩ := id (ho3.sl (Nat.le_refl _))
        obtain ⟨c0, c1, f0, f1, hz⟩ := rh_later hb4 k4 k5 k6
        obtain ⟨hc, hf⟩ := bcell hb4
        obtain ⟨e0, e1, e2⟩ := two_sets w3 (w.heap.size + 1 + 1) (.int .i64 s) (.slice A3 (hRed xs a k).length c3) c0 c1
        go_wp2_with fail
        refine bodyPost_ret (v := .tuple #[.agg #[.int .i64 s, .slice A3 (hRed xs a k).length c3], .int .i64 0]) (by simp [results, Try.results37, go_sem, e1, e2]) rfl ?_
        refine ⟨_, by rw [H1.out], ?_, set_below (by simp; omega) (set_below (by simp; omega) (hA.trans (hb4.mono hA.size)))⟩
        rw [H1.out]
        refine (ho3.keep fun j h1 h2 => ?_).mono (by omega) (by simp [World.setCell])
        rw [Below.heap_setCell _ _ _ _ (by simp only; omega), Below.heap_setCell _ _ _ _ (by simp only; omega)]
      · have H1 := Lib.hid (show rhA s xs a k = (0, [], 5) by simp [rhA, hok, hih, hl4])
        have hli : 40 < ((hRed xs a k).length : Int) := by omega
        go_enter Try.func37, Try.ntmps37
        go_wp2_with fail
        refine (impl_ValidBraid_any _ _ xs B _ hs hB1).mono ?_
        rintro e w1 ⟨rfl, hb⟩
        obtain ⟨hc, hf⟩ := bcell hb
        have hz1 : w.heap.size + 1 + 1 < w1.heap.size := by have := hb.size; simp at this; omega
        have hz2 : w.heap.size + 1 < w1.heap.size := by omega
        have hz3 : w.heap.size < w1.heap.size := by omega
        go_wp2_with fail
        clear hc hf
        refine (is_below H2.out (impl_IsHandle_any s _ xs a k B _ (hs.below hb hB1) (Nat.le_trans hB1 hb.size) hf64)).mono ?_
        rintro e w2 ⟨rfl, hb2⟩
        have hbb := hb.trans (hb2.mono hb.size)
        obtain ⟨hc, hf⟩ := bcell hbb
        have hz4 : w.heap.size + 1 + 1 < w2.heap.size := by have := hb2.size; omega
        have hz5 : w.heap.size + 1 < w2.heap.size := by omega
        have hz6 : w.heap.size < w2.heap.size := by omega
        go_wp2_with fail
        clear hc hf
        refine (withoutHandle_any _ xs B a k _ (hs.below hbb hB1) (Nat.le_trans hB1 hbb.size) HL.out hak hkl (by omega)).mono ?_
        rintro e w3 ⟨r3, rfl, ho3, hb3⟩
        have hb4 := hbb.trans (hb3.mono hbb.size)
        obtain ⟨A3, c3, rfl, -⟩ := id (ho3.sl (Nat.le_refl _))
        obtain ⟨c0, c1, f0, f1, hz⟩ := rh_later hb4 k4 k5 k6
        obtain ⟨e0, e1, e2⟩ := two_sets w3 (w.heap.size + 1 + 1) (.int .i64 0) (.slice none 0 0) c0 c1
        go_wp2_with fail
        refine bodyPost_ret (v := .tuple #[.agg #[.int .i64 0, .slice none 0 0], .int .i64 5]) (by simp [results, Try.results37, go_sem, e1, e2]) rfl ?_
        exact ⟨_, by rw [H1.out], by rw [H1.out]; exact Ow.nil _ _ _, set_below (by simp; omega) (set_below (by simp; omega) (hA.trans (hb4.mono hA.size)))⟩
set_option maxHeartbeats 3200000 in
theorem spec_ReduceHandle_any (s f t : Int) (v : Value) (xs : List Int) (B : Nat) (w : World) (h : Sl w B v xs) (hB : B ≤ w.heap.size) :
    Calls Try.prog 36 #[.agg #[.int .i64 s, v], .agg #[.int .i64 f, .int .i64 t]] w fun e w' => ∃ r, e = .returned (.tuple #[.agg #[.int .i64 (rhA s xs f t).1, r], .int .i64 (rhA s xs f t).2.2]) ∧ Ow w' w.heap.size w'.heap.size r (rhA s xs f t).2.1 ∧ Below w.heap.size w w' := by
  obtain ⟨A, c, rfl, hl, hm, -⟩ := id h
  have hA : Below w.heap.size w (((w.alloc (.cells #[.int .i64 s, .slice A xs.length c] 40)).alloc (.cells #[.int .i64 f, .int .i64 t] 42)).alloc (.cells #[.int .i64 0, .slice none 0 0] 40)) := (al2 _ _ _).alloc (by simp; omega) _
  obtain ⟨k0, k1, k2, k3, k4, k5, k6, k7⟩ := rh_cells w s f t (.slice A xs.length c)
  have hs := h.below hA hB
  have hB1 := Nat.le_trans hB hA.size
  cases hok : okBr s xs
  · have H1 := Lib.hid (show rhA s xs f t = (0, [], 1) by simp [rhA, hok])
    go_enter Try.func36, Try.ntmps36
    go_wp2_with fail
    refine (l03Ok_any _ _ xs B _ _ hs k0 k1).mono ?_
    rintro e w1 ⟨rfl, n, rfl⟩
    go_wp2_with fail
    go_returns
    exact ⟨_, by rw [H1.out], by rw [H1.out]; exact Ow.nil _ _ _, set_below (by simp; omega) (set_below (by simp; omega) (below_drewN hA _))⟩
  · have HL := Lib.hid (okBr_lt hok)
    have hln := (okBr_parts hok).2.2.1
    cases hih : isH xs f t
    · have H1 := Lib.hid (show rhA s xs f t = (0, [], 6) by simp [rhA, hok, hih])
      have H2 := Lib.hid hih
      go_enter Try.func36, Try.ntmps36
      go_wp2_with fail
      refine (l03Ok_any _ _ xs B _ _ hs k0 k1).mono ?_
      rintro e w1 ⟨rfl, n, rfl⟩
      go_wp2_with fail
      refine (is_below H2.out (l06Is_any _ xs B f t _ (hs.drewN n) hB1 HL.out)).mono ?_
      rintro e w2 ⟨rfl, hb2⟩
      have hb3 := (drewN_below (((w.alloc (.cells #[.int .i64 s, .slice A xs.length c] 40)).alloc (.cells #[.int .i64 f, .int .i64 t] 42)).alloc (.cells #[.int .i64 0, .slice none 0 0] 40)) _ n).trans hb2
      obtain ⟨c0, c1, f0, f1, hz⟩ := rh_later hb3 k4 k5 k6
      obtain ⟨e0, e1, e2⟩ := two_sets w2 (w.heap.size + 1 + 1) (.int .i64 0) (.slice none 0 0) c0 c1
      go_wp2_with fail
      refine bodyPost_ret (v := .tuple #[.agg #[.int .i64 0, .slice none 0 0], .int .i64 6]) (by simp [results, Try.results36, go_sem, e1, e2]) rfl ?_
      exact ⟨_, by rw [H1.out], by rw [H1.out]; exact Ow.nil _ _ _, set_below (by simp; omega) (set_below (by simp; omega) (hA.trans (hb3.mono hA.size)))⟩
    · obtain ⟨a, k, rfl, rfl, hak, hkl⟩ := isH_f hih
      have H2 := Lib.hid hih
      by_cases hl4 : (hRed xs a k).length ≤ 40
      · have H1 := Lib.hid (show rhA s xs a k = (s, hRed xs a k, 0) by simp [rhA, hok, hih, hl4])
        have hli : ¬ 40 < ((hRed xs a k).length : Int) := by omega
        go_enter Try.func36, Try.ntmps36
        go_wp2_with fail
        refine (l03Ok_any _ _ xs B _ _ hs k0 k1).mono ?_
        rintro e w1 ⟨rfl, n, rfl⟩
        go_wp2_with fail
        refine (is_below H2.out (l06Is_any _ xs B a k _ (hs.drewN n) hB1 HL.out)).mono ?_
        rintro e w2 ⟨rfl, hb2⟩
        have hb3 := (drewN_below (((w.alloc (.cells #[.int .i64 s, .slice A xs.length c] 40)).alloc (.cells #[.int .i64 a, .int .i64 k] 42)).alloc (.cells #[.int .i64 0, .slice none 0 0] 40)) (((w.alloc (.cells #[.int .i64 s, .slice A xs.length c] 40)).alloc (.cells #[.int .i64 a, .int .i64 k] 42)).alloc (.cells #[.int .i64 0, .slice none 0 0] 40)).heap.size n).trans hb2
        obtain ⟨c0, c1, f0, f1, hz⟩ := rh_later hb3 k4 k5 k6
        obtain ⟨hc, hf⟩ := bcell hb3
        have j0 : w2.cell? ⟨w.heap.size, 0, none⟩ = some (.int .i64 s) := by rw [hc _ _ (block_lt_of_cell k0)]; exact k0
        have j1 : w2.cell? ⟨w.heap.size, 1, none⟩ = some (.slice A xs.length c) := by rw [hc _ _ (block_lt_of_cell k1)]; exact k1
        have j2 : w2.cell? ⟨w.heap.size + 1, 0, none⟩ = some (.int .i64 a) := by rw [hc _ _ (block_lt_of_cell k2)]; exact k2
        have j3 : w2.cell? ⟨w.heap.size + 1, 1, none⟩ = some (.int .i64 k) := by rw [hc _ _ (block_lt_of_cell k3)]; exact k3
        have hx := hs.below hb3 hB1
        have hB2 := Nat.le_trans hB1 hb3.size
        have hzz : w.heap.size + 1 + 1 < w2.heap.size := by have := hb3.size; rw [k7] at this; omega
        have K4 := Lib.hid k4
        have K5 := Lib.hid k5
        have K6 := Lib.hid k6
        clear hc hf k0 k1 k2 k3 k4 k5 k6 hs c0 c1 f0 f1 hz
        go_wp2_with fail
        have HK := Lib.hid (fun w' (hw : Below w2.heap.size w2 w') => show w'.cell? ⟨w.heap.size, 0, none⟩ = some (.int .i64 s) ∧ w'.cell? ⟨w.heap.size, 1, none⟩ = some (.slice A xs.length c) ∧ w'.cell? ⟨w.heap.size + 1, 0, none⟩ = some (.int .i64 a) ∧ w'.cell? ⟨w.heap.size + 1, 1, none⟩ = some (.int .i64 k) ∧ Below w2.heap.size w2 w' from
          ⟨by rw [hw.cell (block_lt_of_cell j0)]; exact j0, by rw [hw.cell (block_lt_of_cell j1)]; exact j1, by rw [hw.cell (block_lt_of_cell j2)]; exact j2, by rw [hw.cell (block_lt_of_cell j3)]; exact j3, hw⟩)
        clear j0 j1 j2 j3
        go_region_held3 (fun w' => w'.cell? ⟨w.heap.size, 0, none⟩ = some (.int .i64 s) ∧ w'.cell? ⟨w.heap.size, 1, none⟩ = some (.slice A xs.length c) ∧ w'.cell? ⟨w.heap.size + 1, 0, none⟩ = some (.int .i64 a) ∧ w'.cell? ⟨w.heap.size + 1, 1, none⟩ = some (.int .i64 k) ∧ Below w2.heap.size w2 w')
          (exact HK.out _ (by go_grown))
          (first
            | (go_at_call 70; (refine (l06Reduce_any _ xs B a k _ (hx.below (show Below w2.heap.size w2 _ by go_grown) hB2) (Nat.le_trans hB2 (Below.size (w := w2) (B := w2.heap.size) (by go_grown))) HL.out hak hkl (by omega)).mono ?_); rintro e w3 ⟨r3, rfl, ho3, hq3⟩; have hr3 : Below w2.heap.size w2 w3 := Below.trans (show Below w2.heap.size w2 _ by go_grown) (hq3.mono (Below.size (w := w2) (B := w2.heap.size) (by go_grown))); obtain ⟨A3, c3, rfl, -⟩ := id (ho3.sl (Nat.le_refl _)); have hcf3 := bcell hq3; have hsz3 := hr3.size))
        · have hbV : Below w2.heap.size w2 (w3.alloc (.cells #[.int .i64 s, .slice A3 (hRed xs a k).length c3] 40)) := hr3.alloc hsz3 _
          have hoV : Ow (w3.alloc (.cells #[.int .i64 s, .slice A3 (hRed xs a k).length c3] 40)) w2.heap.size (w3.alloc (.cells #[.int .i64 s, .slice A3 (hRed xs a k).length c3] 40)).heap.size (.slice A3 (hRed xs a k).length c3) (hRed xs a k) :=
            (Ow.al (show Ow w3 w2.heap.size w3.heap.size _ _ from ho3) (Nat.le_refl _) _).mono (Nat.le_refl _) (al1 _ _).size
          have p0 : (w3.alloc (.cells #[.int .i64 s, .slice A3 (hRed xs a k).length c3] 40)).cell? ⟨w3.heap.size, 0, none⟩ = some (.int .i64 s) := by simp
          have p1 : (w3.alloc (.cells #[.int .i64 s, .slice A3 (hRed xs a k).length c3] 40)).cell? ⟨w3.heap.size, 1, none⟩ = some (.slice A3 (hRed xs a k).length c3) := by simp
          generalize w3.alloc (.cells #[.int .i64 s, .slice A3 (hRed xs a k).length c3] 40) = V at *
          obtain ⟨c0, c1, f0, f1, hz⟩ := rh_later (hb3.trans (hbV.mono hb3.size)) K4.out K5.out K6.out
          obtain ⟨e0, e1, e2⟩ := two_sets V (w.heap.size + 1 + 1) (.int .i64 s) (.slice A3 (hRed xs a k).length c3) c0 c1
          clear ho3 hq3 hcf3 hr3 hsz3
          go_wp2_with fail
          refine bodyPost_ret (v := .tuple #[.agg #[.int .i64 s, .slice A3 (hRed xs a k).length c3], .int .i64 0]) (by simp [results, Try.results36, go_sem, e1, e2]) rfl ?_
          refine ⟨_, by rw [H1.out], ?_, set_below (by simp; omega) (set_below (by simp; omega) (hA.trans ((hb3.trans (hbV.mono hb3.size)).mono hA.size)))⟩
          rw [H1.out]
          refine (hoV.keep fun j h1 h2 => ?_).mono (by have := hb3.size; omega) (by simp [World.setCell])
          rw [Below.heap_setCell _ _ _ _ (by simp only; omega), Below.heap_setCell _ _ _ _ (by simp only; omega)]
        · have hg : w2.heap.size < w3.heap.size := by have := hq3.size; simp at this; omega
          have d0 : w3.cell? ⟨w2.heap.size, 0, none⟩ = some (.int .i64 0) := by rw [hcf3.1 _ _ (by simp)]; simp
          have d1 : w3.cell? ⟨w2.heap.size, 1, none⟩ = some (.slice none 0 0) := by rw [hcf3.1 _ _ (by simp)]; simp
          obtain ⟨-, p0, p1⟩ := two_sets w3 w2.heap.size (.int .i64 s) (.slice A3 (hRed xs a k).length c3) d0 d1
          have hbV : Below w2.heap.size w2 ((w3.setCell ⟨w2.heap.size, 0, none⟩ (.int .i64 s)).setCell ⟨w2.heap.size, 1, none⟩ (.slice A3 (hRed xs a k).length c3)) := set_below (Nat.le_refl _) (set_below (Nat.le_refl _) hr3)
          have hoV : Ow ((w3.setCell ⟨w2.heap.size, 0, none⟩ (.int .i64 s)).setCell ⟨w2.heap.size, 1, none⟩ (.slice A3 (hRed xs a k).length c3)) w2.heap.size ((w3.setCell ⟨w2.heap.size, 0, none⟩ (.int .i64 s)).setCell ⟨w2.heap.size, 1, none⟩ (.slice A3 (hRed xs a k).length c3)).heap.size (.slice A3 (hRed xs a k).length c3) (hRed xs a k) := by
            have ho4 : Ow w3 (w2.heap.size + 1) w3.heap.size (.slice A3 (hRed xs a k).length c3) (hRed xs a k) := ho3.mono (by simp) (Nat.le_refl _)
            refine (ho4.keep fun j h1 h2 => ?_).mono (by omega) (by simp [World.setCell])
            rw [Below.heap_setCell _ _ _ _ (by simp only; omega), Below.heap_setCell _ _ _ _ (by simp only; omega)]
          generalize (w3.setCell ⟨w2.heap.size, 0, none⟩ (.int .i64 s)).setCell ⟨w2.heap.size, 1, none⟩ (.slice A3 (hRed xs a k).length c3) = V at *
          obtain ⟨c0, c1, f0, f1, hz⟩ := rh_later (hb3.trans (hbV.mono hb3.size)) K4.out K5.out K6.out
          obtain ⟨e0, e1, e2⟩ := two_sets V (w.heap.size + 1 + 1) (.int .i64 s) (.slice A3 (hRed xs a k).length c3) c0 c1
          clear ho3 hq3 hcf3 hr3 hsz3
          go_wp2_with fail
          refine bodyPost_ret (v := .tuple #[.agg #[.int .i64 s, .slice A3 (hRed xs a k).length c3], .int .i64 0]) (by simp [results, Try.results36, go_sem, e1, e2]) rfl ?_
          refine ⟨_, by rw [H1.out], ?_, set_below (by simp; omega) (set_below (by simp; omega) (hA.trans ((hb3.trans (hbV.mono hb3.size)).mono hA.size)))⟩
          rw [H1.out]
          refine (hoV.keep fun j h1 h2 => ?_).mono (by have := hb3.size; omega) (by simp [World.setCell])
          rw [Below.heap_setCell _ _ _ _ (by simp only; omega), Below.heap_setCell _ _ _ _ (by simp only; omega)]
      · have H1 := Lib.hid (show rhA s xs a k = (0, [], 5) by simp [rhA, hok, hih, hl4])
        have hli : 40 < ((hRed xs a k).length : Int) := by omega
        go_enter Try.func36, Try.ntmps36
        go_wp2_with fail
        refine (l03Ok_any _ _ xs B _ _ hs k0 k1).mono ?_
        rintro e w1 ⟨rfl, n, rfl⟩
        go_wp2_with fail
        refine (is_below H2.out (l06Is_any _ xs B a k _ (hs.drewN n) hB1 HL.out)).mono ?_
        rintro e w2 ⟨rfl, hb2⟩
        have hb3 := (drewN_below (((w.alloc (.cells #[.int .i64 s, .slice A xs.length c] 40)).alloc (.cells #[.int .i64 a, .int .i64 k] 42)).alloc (.cells #[.int .i64 0, .slice none 0 0] 40)) (((w.alloc (.cells #[.int .i64 s, .slice A xs.length c] 40)).alloc (.cells #[.int .i64 a, .int .i64 k] 42)).alloc (.cells #[.int .i64 0, .slice none 0 0] 40)).heap.size n).trans hb2
        obtain ⟨c0, c1, f0, f1, hz⟩ := rh_later hb3 k4 k5 k6
        obtain ⟨hc, hf⟩ := bcell hb3
        have j0 : w2.cell? ⟨w.heap.size, 0, none⟩ = some (.int .i64 s) := by rw [hc _ _ (block_lt_of_cell k0)]; exact k0
        have j1 : w2.cell? ⟨w.heap.size, 1, none⟩ = some (.slice A xs.length c) := by rw [hc _ _ (block_lt_of_cell k1)]; exact k1
        have j2 : w2.cell? ⟨w.heap.size + 1, 0, none⟩ = some (.int .i64 a) := by rw [hc _ _ (block_lt_of_cell k2)]; exact k2
        have j3 : w2.cell? ⟨w.heap.size + 1, 1, none⟩ = some (.int .i64 k) := by rw [hc _ _ (block_lt_of_cell k3)]; exact k3
        have hx := hs.below hb3 hB1
        have hB2 := Nat.le_trans hB1 hb3.size
        have hzz : w.heap.size + 1 + 1 < w2.heap.size := by have := hb3.size; rw [k7] at this; omega
        have K4 := Lib.hid k4
        have K5 := Lib.hid k5
        have K6 := Lib.hid k6
        clear hc hf k0 k1 k2 k3 k4 k5 k6 hs c0 c1 f0 f1 hz
        go_wp2_with fail
        have HK := Lib.hid (fun w' (hw : Below w2.heap.size w2 w') => show w'.cell? ⟨w.heap.size, 0, none⟩ = some (.int .i64 s) ∧ w'.cell? ⟨w.heap.size, 1, none⟩ = some (.slice A xs.length c) ∧ w'.cell? ⟨w.heap.size + 1, 0, none⟩ = some (.int .i64 a) ∧ w'.cell? ⟨w.heap.size + 1, 1, none⟩ = some (.int .i64 k) ∧ Below w2.heap.size w2 w' from
          ⟨by rw [hw.cell (block_lt_of_cell j0)]; exact j0, by rw [hw.cell (block_lt_of_cell j1)]; exact j1, by rw [hw.cell (block_lt_of_cell j2)]; exact j2, by rw [hw.cell (block_lt_of_cell j3)]; exact j3, hw⟩)
        clear j0 j1 j2 j3
        go_region_held3 (fun w' => w'.cell? ⟨w.heap.size, 0, none⟩ = some (.int .i64 s) ∧ w'.cell? ⟨w.heap.size, 1, none⟩ = some (.slice A xs.length c) ∧ w'.cell? ⟨w.heap.size + 1, 0, none⟩ = some (.int .i64 a) ∧ w'.cell? ⟨w.heap.size + 1, 1, none⟩ = some (.int .i64 k) ∧ Below w2.heap.size w2 w')
          (exact HK.out _ (by go_grown))
          (first
            | (go_at_call 70; (refine (l06Reduce_any _ xs B a k _ (hx.below (show Below w2.heap.size w2 _ by go_grown) hB2) (Nat.le_trans hB2 (Below.size (w := w2) (B := w2.heap.size) (by go_grown))) HL.out hak hkl (by omega)).mono ?_); rintro e w3 ⟨r3, rfl, ho3, hq3⟩; have hr3 : Below w2.heap.size w2 w3 := Below.trans (show Below w2.heap.size w2 _ by go_grown) (hq3.mono (Below.size (w := w2) (B := w2.heap.size) (by go_grown))); obtain ⟨A3, c3, rfl, -⟩ := id (ho3.sl (Nat.le_refl _)); have hcf3 := bcell hq3; have hsz3 := hr3.size))
        · have hbV : Below w2.heap.size w2 (w3.alloc (.cells #[.int .i64 s, .slice A3 (hRed xs a k).length c3] 40)) := hr3.alloc hsz3 _
          have hoV : Ow (w3.alloc (.cells #[.int .i64 s, .slice A3 (hRed xs a k).length c3] 40)) w2.heap.size (w3.alloc (.cells #[.int .i64 s, .slice A3 (hRed xs a k).length c3] 40)).heap.size (.slice A3 (hRed xs a k).length c3) (hRed xs a k) :=
            (Ow.al (show Ow w3 w2.heap.size w3.heap.size _ _ from ho3) (Nat.le_refl _) _).mono (Nat.le_refl _) (al1 _ _).size
          have p0 : (w3.alloc (.cells #[.int .i64 s, .slice A3 (hRed xs a k).length c3] 40)).cell? ⟨w3.heap.size, 0, none⟩ = some (.int .i64 s) := by simp
          have p1 : (w3.alloc (.cells #[.int .i64 s, .slice A3 (hRed xs a k).length c3] 40)).cell? ⟨w3.heap.size, 1, none⟩ = some (.slice A3 (hRed xs a k).length c3) := by simp
          generalize w3.alloc (.cells #[.int .i64 s, .slice A3 (hRed xs a k).length c3] 40) = V at *
          obtain ⟨c0, c1, f0, f1, hz⟩ := rh_later (hb3.trans (hbV.mono hb3.size)) K4.out K5.out K6.out
          obtain ⟨e0, e1, e2⟩ := two_sets V (w.heap.size + 1 + 1) (.int .i64 0) (.slice none 0 0) c0 c1
          clear ho3 hq3 hcf3 hr3 hsz3
          go_wp2_with fail
          refine bodyPost_ret (v := .tuple #[.agg #[.int .i64 0, .slice none 0 0], .int .i64 5]) (by simp [results, Try.results36, go_sem, e1, e2]) rfl ?_
          exact ⟨_, by rw [H1.out], by rw [H1.out]; exact Ow.nil _ _ _, set_below (by simp; omega) (set_below (by simp; omega) (hA.trans ((hb3.trans (hbV.mono hb3.size)).mono hA.size)))⟩
        · have hg : w2.heap.size < w3.heap.size := by have := hq3.size; simp at this; omega
          have d0 : w3.cell? ⟨w2.heap.size, 0, none⟩ = some (.int .i64 0) := by rw [hcf3.1 _ _ (by simp)]; simp
          have d1 : w3.cell? ⟨w2.heap.size, 1, none⟩ = some (.slice none 0 0) := by rw [hcf3.1 _ _ (by simp)]; simp
          obtain ⟨-, p0, p1⟩ := two_sets w3 w2.heap.size (.int .i64 s) (.slice A3 (hRed xs a k).length c3) d0 d1
          have hbV : Below w2.heap.size w2 ((w3.setCell ⟨w2.heap.size, 0, none⟩ (.int .i64 s)).setCell ⟨w2.heap.size, 1, none⟩ (.slice A3 (hRed xs a k).length c3)) := set_below (Nat.le_refl _) (set_below (Nat.le_refl _) hr3)
          have hoV : Ow ((w3.setCell ⟨w2.heap.size, 0, none⟩ (.int .i64 s)).setCell ⟨w2.heap.size, 1, none⟩ (.slice A3 (hRed xs a k).length c3)) w2.heap.size ((w3.setCell ⟨w2.heap.size, 0, none⟩ (.int .i64 s)).setCell ⟨w2.heap.size, 1, none⟩ (.slice A3 (hRed xs a k).length c3)).heap.size (.slice A3 (hRed xs a k).length c3) (hRed xs a k) := by
            have ho4 : Ow w3 (w2.heap.size + 1) w3.heap.size (.slice A3 (hRed xs a k).length c3) (hRed xs a k) := ho3.mono (by simp) (Nat.le_refl _)
            refine (ho4.keep fun j h1 h2 => ?_).mono (by omega) (by simp [World.setCell])
            rw [Below.heap_setCell _ _ _ _ (by simp only; omega), Below.heap_setCell _ _ _ _ (by simp only; omega)]
          generalize (w3.setCell ⟨w2.heap.size, 0, none⟩ (.int .i64 s)).setCell ⟨w2.heap.size, 1, none⟩ (.slice A3 (hRed xs a k).length c3) = V at *
          obtain ⟨c0, c1, f0, f1, hz⟩ := rh_later (hb3.trans (hbV.mono hb3.size)) K4.out K5.out K6.out
          obtain ⟨e0, e1, e2⟩ := two_sets V (w.heap.size + 1 + 1) (.int .i64 0) (.slice none 0 0) c0 c1
          clear ho3 hq3 hcf3 hr3 hsz3
          go_wp2_with fail
          refine bodyPost_ret (v := .tuple #[.agg #[.int .i64 0, .slice none 0 0], .int .i64 5]) (by simp [results, Try.results36, go_sem, e1, e2]) rfl ?_
          exact ⟨_, by rw [H1.out], by rw [H1.out]; exact Ow.nil _ _ _, set_below (by simp; omega) (set_below (by simp; omega) (hA.trans ((hb3.trans (hbV.mono hb3.size)).mono hA.size)))⟩
end Go.Proofs.Ytphbmdoeaebhnaa
