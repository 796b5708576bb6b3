/-
  Contracts: the main letter (the reference's l06Main), MainLetter and FirstHandle of both.
-/
import Derived.Test.YtcinnbkhnonijaaHnd3
namespace Go.Proofs.Ytcinnbkhnonijaa
set_option maxRecDepth 10000
open Go.RowKit

theorem two_sets (w1 : World) (g : Nat) {u0 u1 : Value} (x y : Value) (h0 : w1.cell? ⟨g, 0, none⟩ = some u0) (h1 : w1.cell? ⟨g, 1, none⟩ = some u1) :
    (w1.setCell ⟨g, 0, none⟩ x).cell? ⟨g, 0, none⟩ = some x ∧ ((w1.setCell ⟨g, 0, none⟩ x).setCell ⟨g, 1, none⟩ y).cell? ⟨g, 0, none⟩ = some x ∧ ((w1.setCell ⟨g, 0, none⟩ x).setCell ⟨g, 1, none⟩ y).cell? ⟨g, 1, none⟩ = some y := by
  have a0 := World.cell?_setCell_same w1 ⟨g, 0, none⟩ x h0
  have a1 : (w1.setCell ⟨g, 0, none⟩ x).cell? ⟨g, 1, none⟩ = some u1 := by
    rw [World.cell?_setCell_other]
    · exact h1
    · intro e; injection e with e1 e2; cases e2
  refine ⟨a0, ?_, World.cell?_setCell_same _ _ _ a1⟩
  rw [World.cell?_setCell_other]
  · exact a0
  · intro e; injection e with e1 e2; cases e2
def fhF (s : Int) (xs : List Int) : Int := if okBr s xs = true then hF xs else 0
def fhT (s : Int) (xs : List Int) : Int := if okBr s xs = true then hT xs else 0
def fhB (s : Int) (xs : List Int) : Bool := okBr s xs && hOk xs
set_option maxHeartbeats 1600000 in
theorem impl_FirstHandle_any (s : Int) (v : Value) (xs : List Int) (B : Nat) (w : World) (h : Sl w B v xs) (hB : B ≤ w.heap.size) :
    Calls Try.prog 19 #[.agg #[.int .i64 s, v]] w fun e w' => e = .returned (.tuple #[.agg #[.int .i64 (fhF s xs), .int .i64 (fhT s xs)], .bool (fhB s xs)]) ∧ Below w.heap.size w w' := by
  obtain ⟨A, c, rfl, hl, hm, -⟩ := id h
  unfold maxLen at hm
  have hA := al2 w (.cells #[.int .i64 s, .slice A xs.length c] 26) (.cells #[.int .i64 0, .int .i64 0] 39)
  have hs := h.below hA hB
  have hB1 := Nat.le_trans hB hA.size
  obtain ⟨n0, n1⟩ := braid_cells w s (.slice A xs.length c) (.cells #[.int .i64 0, .int .i64 0] 39)
  cases hok : okBr s xs
  · have H1 := Lib.hid (show fhF s xs = 0 by simp [fhF, hok])
    have H2 := Lib.hid (show fhT s xs = 0 by simp [fhT, hok])
    have H3 := Lib.hid (show fhB s xs = false by simp [fhB, hok])
    go_enter Try.func19, Try.ntmps19
    go_wp2_with fail
    refine (impl_ValidBraid_any _ _ xs B _ hs hB1).mono ?_
    rintro e w1 ⟨rfl, hb⟩
    obtain ⟨hc, hf⟩ := bcell hb
    have hz := hb.size
    simp at hz
    have hz1 : w.heap.size + 1 < w1.heap.size := by omega
    have k0 : w1.cell? ⟨w.heap.size + 1, 0, none⟩ = some (.int .i64 0) := by rw [hc _ _ (by simp)]; simp
    have k1 : w1.cell? ⟨w.heap.size + 1, 1, none⟩ = some (.int .i64 0) := by rw [hc _ _ (by simp)]; simp
    obtain ⟨e0, e1, e2⟩ := two_sets w1 _ (.int .i64 0) (.int .i64 0) k0 k1
    go_wp2_with fail
    refine bodyPost_ret (v := .tuple #[.agg #[.int .i64 0, .int .i64 0], .bool false]) (by simp [results, Try.results19, go_sem, e1, e2]) rfl ?_
    exact ⟨by rw [H1.out, H2.out, H3.out], set_below (by simp) (set_below (by simp) (hA.trans (hb.mono hA.size)))⟩
  · have H1 := Lib.hid (show fhF s xs = hF xs by simp [fhF, hok])
    have H2 := Lib.hid (show fhT s xs = hT xs by simp [fhT, hok])
    have H3 := Lib.hid (show fhB s xs = hOk xs by simp [fhB, hok])
    have HL := Lib.hid (fun x hx => okBr_mem hok x hx)
    go_enter Try.func19, Try.ntmps19
    go_wp2_with fail
    refine (impl_ValidBraid_any _ _ xs B _ hs hB1).mono ?_
    rintro e w1 ⟨rfl, hb⟩
    obtain ⟨hc, hf⟩ := bcell hb
    have hz := hb.size
    simp at hz
    have hz1 : w.heap.size < w1.heap.size := by omega
    have hz2 : w.heap.size + 1 < w1.heap.size := by omega
    have k0 : w1.cell? ⟨w.heap.size + 1, 0, none⟩ = some (.int .i64 0) := by rw [hc _ _ (by simp)]; simp
    have k1 : w1.cell? ⟨w.heap.size + 1, 1, none⟩ = some (.int .i64 0) := by rw [hc _ _ (by simp)]; simp
    have k2 : w1.cell? ⟨w.heap.size, 1, none⟩ = some (.slice A xs.length c) := by rw [hc _ _ (by simp; omega)]; exact n1
    have hb0 := hA.trans (hb.mono hA.size)
    have f0 : w1.frozen? ⟨w.heap.size + 1, 0, none⟩ = false := by rw [hf _ _ (by simp)]; simp
    have f1 : w1.frozen? ⟨w.heap.size + 1, 1, none⟩ = false := by rw [hf _ _ (by simp)]; simp
    clear hc hf
    go_wp2_with fail
    refine (firstHandle_any _ xs B _ (hs.below hb hB1) (Nat.le_trans hB1 hb.size) HL.out).mono ?_
    rintro e w2 ⟨rfl, hb2⟩
    obtain ⟨hc, hf⟩ := bcell hb2
    have hz3 : w.heap.size + 1 < w2.heap.size := Nat.lt_of_lt_of_le hz2 hb2.size
    have k3 : w2.cell? ⟨w.heap.size + 1, 0, none⟩ = some (.int .i64 0) := by rw [hc _ _ hz2]; exact k0
    have k4 : w2.cell? ⟨w.heap.size + 1, 1, none⟩ = some (.int .i64 0) := by rw [hc _ _ hz2]; exact k1
    obtain ⟨e0, e1, e2⟩ := two_sets w2 _ (.int .i64 (hF xs)) (.int .i64 (hT xs)) k3 k4
    go_wp2_with fail
    refine bodyPost_ret (v := .tuple #[.agg #[.int .i64 (hF xs), .int .i64 (hT xs)], .bool (hOk xs)]) (by simp [results, Try.results19, go_sem, e1, e2]) rfl ?_
    exact ⟨by rw [H1.out, H2.out, H3.out], set_below (by simp) (set_below (by simp) (hb0.trans (hb2.mono hb0.size)))⟩
set_option maxHeartbeats 1600000 in
theorem spec_FirstHandle_any (s : Int) (v : Value) (xs : List Int) (B : Nat) (w : World) (h : Sl w B v xs) (hB : B ≤ w.heap.size) :
    Calls Try.prog 15 #[.agg #[.int .i64 s, v]] w fun e w' => e = .returned (.tuple #[.agg #[.int .i64 (fhF s xs), .int .i64 (fhT s xs)], .bool (fhB s xs)]) ∧ Below w.heap.size w w' := by
  obtain ⟨A, c, rfl, hl, hm, -⟩ := id h
  unfold maxLen at hm
  have hA := al2 w (.cells #[.int .i64 s, .slice A xs.length c] 26) (.cells #[.int .i64 0, .int .i64 0] 39)
  have hs := h.below hA hB
  have hB1 := Nat.le_trans hB hA.size
  obtain ⟨n0, n1⟩ := braid_cells w s (.slice A xs.length c) (.cells #[.int .i64 0, .int .i64 0] 39)
  cases hok : okBr s xs
  · have H1 := Lib.hid (show fhF s xs = 0 by simp [fhF, hok])
    have H2 := Lib.hid (show fhT s xs = 0 by simp [fhT, hok])
    have H3 := Lib.hid (show fhB s xs = false by simp [fhB, hok])
    go_enter Try.func15, Try.ntmps15
    go_wp2_with (go_at_call 33; refine (l03Ok_any _ _ xs B _ _ hs n0 n1).mono ?_; rintro e w' ⟨rfl, n, rfl⟩)
    go_returns
    exact ⟨by rw [H1.out, H2.out, H3.out], set_below (by simp) (set_below (by simp) (below_drewN hA _))⟩
  · have H1 := Lib.hid (show fhF s xs = hF xs by simp [fhF, hok])
    have H2 := Lib.hid (show fhT s xs = hT xs by simp [fhT, hok])
    have H3 := Lib.hid (show fhB s xs = hOk xs by simp [fhB, hok])
    have HL := Lib.hid (fun x hx => okBr_mem hok x hx)
    go_enter Try.func15, Try.ntmps15
    go_wp2_with fail
    refine (l03Ok_any _ _ xs B _ _ hs n0 n1).mono ?_
    rintro e w' ⟨rfl, n, rfl⟩
    go_wp2_with fail
    refine (l06First_any _ xs B _ (hs.drewN _) hB1 HL.out).mono ?_
    rintro e w2 ⟨rfl, hb2⟩
    obtain ⟨hc, hf⟩ := bcell hb2
    have hz3 : w.heap.size + 1 < w2.heap.size := by have := hb2.size; simp at this; omega
    have k3 : w2.cell? ⟨w.heap.size + 1, 0, none⟩ = some (.int .i64 0) := by rw [hc _ _ (by simp)]; simp
    have k4 : w2.cell? ⟨w.heap.size + 1, 1, none⟩ = some (.int .i64 0) := by rw [hc _ _ (by simp)]; simp
    obtain ⟨e0, e1, e2⟩ := two_sets w2 _ (.int .i64 (hF xs)) (.int .i64 (hT xs)) k3 k4
    go_wp2_with fail
    refine bodyPost_ret (v := .tuple #[.agg #[.int .i64 (hF xs), .int .i64 (hT xs)], .bool (hOk xs)]) (by simp [results, Try.results15, go_sem, e1, e2]) rfl ?_
    exact ⟨by rw [H1.out, H2.out, H3.out], set_below (by simp) (set_below (by simp) ((below_drewN hA _).trans (hb2.mono hA.size)))⟩
end Go.Proofs.Ytcinnbkhnonijaa
