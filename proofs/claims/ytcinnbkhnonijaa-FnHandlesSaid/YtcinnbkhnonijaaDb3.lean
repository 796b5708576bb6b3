/-
  Contracts: a drawn handle of a drawn braid (l06Handle), ValidBraid of the reference.
-/
import Derived.Test.YtcinnbkhnonijaaDb
import Derived.Test.YtcinnbkhnonijaaGw3
import Derived.Test.YtcinnbkhnonijaaHpl
namespace Go.Proofs.Ytcinnbkhnonijaa
set_option maxRecDepth 10000
open Go.RowKit

theorem hF_bd {n : Int} {xs : List Int} (hx : In n xs) (hl : xs.length ≤ 60) : 0 ≤ hF xs ∧ hF xs ≤ 60 := by
  unfold hF
  cases h : firstT xs with
  | none => simp
  | some k =>
    have h1 := firstT_ends hx h
    have h2 : 0 ≤ hTo xs k := by have h5 := List.find?_some (p := fun k => decide (0 ≤ hTo xs k)) h; simpa using h5
    have h3 : (hTo xs k).toNat < k := h1.2.1
    have h4 := h1.1
    simp only
    omega
theorem spec_ValidBraid_any (s : Int) (v : Value) (xs : List Int) (B : Nat) (w : World) (h : Sl w B v xs) (hB : B ≤ w.heap.size) :
    Calls Try.prog 16 #[.agg #[.int .i64 s, v]] w fun e w' => e = .returned (.bool (okBr s xs)) ∧ Below w.heap.size w w' := by
  have hA := al1 w (.cells #[.int .i64 s, v] 26)
  have hx := alloc_at_ w (.cells #[.int .i64 s, v] 26)
  obtain ⟨c0, c1, -, -, -⟩ := box2 hx
  go_enter Try.func16, Try.ntmps16
  go_wp2_with fail
  refine (l03Ok_is rfl (h.below hA hB) c0 c1).mono ?_
  rintro e w3 ⟨rfl, hb3⟩
  go_wp2_with fail
  go_ret
  exact ⟨rfl, hA.trans (hb3.mono hA.size)⟩
set_option maxHeartbeats 3200000 in
theorem l06Handle_any (n : Int) (v : Value) (xs : List Int) (g lo hi p K : Nat) (w : World) (h : Src w p K) (hK : K ≤ 999990000) (hb : w.heap[g]? = some (.cells #[.int .i64 n, v] 26))
    (hI : SlI lo hi w v xs) (hhi : hi ≤ w.heap.size) (hl : xs.length ≤ 60) :
    Calls Try.prog 42 #[.pointer (some ⟨p, 0, none⟩), .pointer (some ⟨g, 0, none⟩)] w fun e w' => ∃ f t : Int, e = .returned (.agg #[.int .i64 f, .int .i64 t]) ∧ (-9223372036854775808 ≤ f ∧ f ≤ 9223372036854775807) ∧ Src w' p (K + 10) ∧ Chg p (p + 1) w w' := by
  have hp := h.lt
  have hgw := (box2 hb).2.2.2.2
  obtain ⟨A, c, rfl, -⟩ := id hI
  have hA := al1 w (.cells #[.int .i64 0, .int .i64 0] 39)
  have hx := alloc_at_ w (.cells #[.int .i64 0, .int .i64 0] 39)
  generalize hW : w.alloc (.cells #[.int .i64 0, .int .i64 0] 39) = W at hA hx
  have hWs : W.heap.size = w.heap.size + 1 := by rw [← hW]; simp
  have hA2 := al1 W (.cells #[.int .i64 0, .int .i64 0] 39)
  have hx2 := alloc_at_ W (.cells #[.int .i64 0, .int .i64 0] 39)
  have hy2 : (W.alloc (.cells #[.int .i64 0, .int .i64 0] 39)).heap[w.heap.size]? = some (.cells #[.int .i64 0, .int .i64 0] 39) := by rw [hA2.block _ (by omega)]; exact hx
  generalize hW2 : W.alloc (.cells #[.int .i64 0, .int .i64 0] 39) = W2 at hA2 hx2 hy2
  have hW2s : W2.heap.size = w.heap.size + 2 := by rw [← hW2]; simp [hWs]
  rw [hWs] at hx2
  obtain ⟨s0, s1, sf0, sf1, -⟩ := box2 hx2
  have hB4 : Below w.heap.size w ((W2.setCell ⟨w.heap.size + 1, 0, none⟩ (.int .i64 0)).setCell ⟨w.heap.size + 1, 1, none⟩ (.int .i64 0)) := (hA.trans (hA2.mono (by omega))).trans (set_below (by simp only; omega) (set_below (by simp only; omega) (Below.refl _ _)))
  have hx4 : ((W2.setCell ⟨w.heap.size + 1, 0, none⟩ (.int .i64 0)).setCell ⟨w.heap.size + 1, 1, none⟩ (.int .i64 0)).heap[w.heap.size + 1]? = some (.cells #[.int .i64 0, .int .i64 0] 39) := heap_setCell_at (k := 1) (.int .i64 0) (heap_setCell_at (k := 0) (.int .i64 0) hx2)
  have hy4 : ((W2.setCell ⟨w.heap.size + 1, 0, none⟩ (.int .i64 0)).setCell ⟨w.heap.size + 1, 1, none⟩ (.int .i64 0)).heap[w.heap.size]? = some (.cells #[.int .i64 0, .int .i64 0] 39) := by
    rw [Below.heap_setCell _ _ _ _ (by simp), Below.heap_setCell _ _ _ _ (by simp)]
    exact hy2
  have hz4 : ((W2.setCell ⟨w.heap.size + 1, 0, none⟩ (.int .i64 0)).setCell ⟨w.heap.size + 1, 1, none⟩ (.int .i64 0)).heap.size = w.heap.size + 2 := by simp [World.setCell, hW2s]
  generalize hW4 : (W2.setCell ⟨w.heap.size + 1, 0, none⟩ (.int .i64 0)).setCell ⟨w.heap.size + 1, 1, none⟩ (.int .i64 0) = W4 at hB4 hx4 hy4 hz4
  have hs4 : Src W4 p K := h.below hB4 hp
  have hI4 := hI.below hB4 hhi
  have hb4 : W4.heap[g]? = some (.cells #[.int .i64 n, .slice A xs.length c] 26) := by rw [hB4.block _ hgw]; exact hb
  have hc4 : Chg p (p + 1) w W4 := ⟨hB4.os, hB4.tape, hB4.output, hB4.size, fun j hj _ => hB4.block j hj⟩
  clear hA hA2 hx hB4 hx2 hy2
  obtain ⟨c0, c1, -, -, -⟩ := box2 hb4
  cases hok : okBr n xs
  · go_enter Try.func42, Try.ntmps42
    go_wp2_with fail
    refine (l03Ok_is hok (hI4.sl hhi) c0 c1).mono ?_
    rintro e w3 ⟨rfl, hb3⟩
    have hz3 := hb3.size
    obtain ⟨f, t, hf, hx3⟩ : ∃ f t : Int, (0 ≤ f ∧ f ≤ 60) ∧ w3.heap[w.heap.size + 1]? = some (.cells #[.int .i64 f, .int .i64 t] 39) := ⟨0, 0, by omega, by rw [hb3.block _ (by omega)]; exact hx4⟩
    have hy3 : w3.heap[w.heap.size]? = some (.cells #[.int .i64 0, .int .i64 0] 39) := by rw [hb3.block _ (by omega)]; exact hy4
    have hs3 := hs4.below hb3 (by omega)
    have hc3 := hc4.then_below (hb3.mono (by omega))
    clear hb3 hs4 hx4 hy4 hI4 hb4 hc4 c0 c1 hok s0 s1 sf0 sf1 hW4 hW2 hW hWs hW2s
    go_wp2_with fail
    refine (one_any 4 p _ _ hs3 (by omega)).mono ?_
    rintro e w5 ⟨b5, rfl, hs5, hc5⟩
    have hz5 := hc5.size
    have hx5 : w5.heap[w.heap.size + 1]? = some (.cells #[.int .i64 f, .int .i64 t] 39) := by rw [hc5.block _ (by omega) (by omega)]; exact hx3
    have hy5 : w5.heap[w.heap.size]? = some (.cells #[.int .i64 0, .int .i64 0] 39) := by rw [hc5.block _ (by omega) (by omega)]; exact hy3
    have hc5 := hc3.trans hc5
    clear hc3 hs3 hx3 hy3
    obtain ⟨q0, q1, f0, f1, -⟩ := box2 hx5
    obtain ⟨r0, r1, rf0, rf1, -⟩ := box2 hy5
    cases b5
    · obtain ⟨e0, e1, e2⟩ := two_sets w5 w.heap.size (.int .i64 f) (.int .i64 t) r0 r1
      have hbl : Below w.heap.size w5 ((w5.setCell ⟨w.heap.size, 0, none⟩ (.int .i64 f)).setCell ⟨w.heap.size, 1, none⟩ (.int .i64 t)) := set_below (Nat.le_refl _) (set_below (Nat.le_refl _) (Below.refl _ _))
      go_wp2_with fail
      refine bodyPost_ret (v := .agg #[.int .i64 f, .int .i64 t]) (by simp [results, Try.results42, go_sem, e1, e2]) rfl ?_
      exact ⟨f, t, rfl, by omega, (hs5.below hbl hp).mono (by omega), hc5.then_below hbl⟩
    · have hs6 : Src w5.drew p _ := hs5.below (below_drewN (Below.refl w5.heap.size w5) 1) hs5.lt
      have HK := Lib.hid (fun w' (hw : Chg p (p + 1) w5 w') => show w'.cell? ⟨w.heap.size + 1, 0, none⟩ = some (.int .i64 f) ∧ w'.frozen? ⟨w.heap.size + 1, 0, none⟩ = false from
        ⟨by rw [World.cell?_of_block (w := w5) (hw.block (w.heap.size + 1) (by omega) (by omega))]; exact q0, by rw [World.frozen?_of_block (w := w5) (hw.block (w.heap.size + 1) (by omega) (by omega))]; exact f0⟩)
      clear r0 r1 rf0 rf1
      go_wp2_with fail
      go_region_law
        (go_simp; go_at_call 41; (refine (pick_any 3 p _ _ hs6 (by omega)).mono ?_); rintro e w7 ⟨x, rfl, x0, x1, hs7, hc7⟩; have hr7 : Chg p (p + 1) w5 w7 := chg_fresh (below_drewN (Below.refl w5.heap.size w5) 1) hc7; have q07 := (HK.out _ hr7).1; have f07 := (HK.out _ hr7).2; have hw1 : IntKind.i64.wrap (x - 1) = x - 1 := IntWalk.i64_in _ (by omega); have hw2 : IntKind.i64.wrap (f + (x - 1)) = f + (x - 1) := IntWalk.i64_in _ (by omega); dsimp only)
      all_goals
        have hz7 := hr7.size
        have hx7 : w7.heap[w.heap.size + 1]? = some (.cells #[.int .i64 f, .int .i64 t] 39) := by rw [hr7.block _ (by omega) (by omega)]; exact hx5
        have hy7 : w7.heap[w.heap.size]? = some (.cells #[.int .i64 0, .int .i64 0] 39) := by rw [hr7.block _ (by omega) (by omega)]; exact hy5
        have hx8 := heap_setCell_at (k := 0) (.int .i64 (f + (x - 1))) hx7
        have hy8 : (w7.setCell ⟨w.heap.size + 1, 0, none⟩ (.int .i64 (f + (x - 1)))).heap[w.heap.size]? = some (.cells #[.int .i64 0, .int .i64 0] 39) := by rw [Below.heap_setCell _ _ _ _ (by simp)]; exact hy7
        have hbs : Below w.heap.size w7 (w7.setCell ⟨w.heap.size + 1, 0, none⟩ (.int .i64 (f + (x - 1)))) := set_below (by simp only; omega) (Below.refl _ _)
        have hs8 := hs7.below hbs (by omega)
        have hc8 := (hc5.trans hr7).then_below hbs
        have hz8 := hbs.size
        have hfb : -1 ≤ f + (x - 1) ∧ f + (x - 1) ≤ 61 := by omega
        generalize w7.setCell ⟨w.heap.size + 1, 0, none⟩ (.int .i64 (f + (x - 1))) = W8 at *
        clear HK hs7 hbs hc5 hr7 hs6 q07 f07 hw1 hw2 q0 q1 f0 f1 hx5 hy5 hx7 hy7 hc7 hs5
        generalize f + (x - 1) = f2 at *
        obtain ⟨q0, q1, f0, f1, -⟩ := box2 (a := .int .i64 f2) (b := .int .i64 t) hx8
        have hs9 : Src W8.drew p _ := hs8.below (below_drewN (Below.refl W8.heap.size W8) 1) hs8.lt
        have HK := Lib.hid (fun w' (hw : Chg p (p + 1) W8 w') => show w'.cell? ⟨w.heap.size + 1, 1, none⟩ = some (.int .i64 t) ∧ w'.frozen? ⟨w.heap.size + 1, 1, none⟩ = false from
          ⟨by rw [World.cell?_of_block (w := W8) (hw.block (w.heap.size + 1) (by omega) (by omega))]; exact q1, by rw [World.frozen?_of_block (w := W8) (hw.block (w.heap.size + 1) (by omega) (by omega))]; exact f1⟩)
        go_wp2_with fail
        go_region_law
          (go_simp; go_at_call 41; (refine (pick_any 3 p _ _ hs9 (by omega)).mono ?_); rintro e w9 ⟨y, rfl, y0, y1, hs9', hc9⟩; have hr9 : Chg p (p + 1) W8 w9 := chg_fresh (below_drewN (Below.refl W8.heap.size W8) 1) hc9; have q19 := (HK.out _ hr9).1; have f19 := (HK.out _ hr9).2; have hw3 : IntKind.i64.wrap (y - 1) = y - 1 := IntWalk.i64_in _ (by omega); obtain ⟨t2, ht2⟩ : ∃ t2, IntKind.i64.wrap (t + (y - 1)) = t2 := ⟨_, rfl⟩; dsimp only)
        all_goals
          have hz9 := hr9.size
          have hx9 : w9.heap[w.heap.size + 1]? = some (.cells #[.int .i64 f2, .int .i64 t] 39) := by rw [hr9.block _ (by omega) (by omega)]; exact hx8
          have hy9 : w9.heap[w.heap.size]? = some (.cells #[.int .i64 0, .int .i64 0] 39) := by rw [hr9.block _ (by omega) (by omega)]; exact hy8
          have hx10 := heap_setCell_at (k := 1) (.int .i64 t2) hx9
          have hy10 : (w9.setCell ⟨w.heap.size + 1, 1, none⟩ (.int .i64 t2)).heap[w.heap.size]? = some (.cells #[.int .i64 0, .int .i64 0] 39) := by rw [Below.heap_setCell _ _ _ _ (by simp)]; exact hy9
          have hbs : Below w.heap.size w9 (w9.setCell ⟨w.heap.size + 1, 1, none⟩ (.int .i64 t2)) := set_below (by simp only; omega) (Below.refl _ _)
          have hs10 := hs9'.below hbs (by omega)
          have hc10 := (hc8.trans hr9).then_below hbs
          clear HK hs9' hbs hc8 hr9 hs8 hs9 q19 f19 q0 q1 f0 f1 hx8 hy8 hx9 hy9 hc9 hw3
          generalize w9.setCell ⟨w.heap.size + 1, 1, none⟩ (.int .i64 t2) = W at *
          obtain ⟨q0, q1, f0, f1, -⟩ := box2 (a := .int .i64 f2) (b := .int .i64 t2) hx10
          obtain ⟨r0, r1, rf0, rf1, -⟩ := box2 hy10
          obtain ⟨e0, e1, e2⟩ := two_sets W w.heap.size (.int .i64 f2) (.int .i64 t2) r0 r1
          have hbl : Below w.heap.size W ((W.setCell ⟨w.heap.size, 0, none⟩ (.int .i64 f2)).setCell ⟨w.heap.size, 1, none⟩ (.int .i64 t2)) := set_below (Nat.le_refl _) (set_below (Nat.le_refl _) (Below.refl _ _))
          clear ht2
          go_wp2_with fail
          refine bodyPost_ret (v := .agg #[.int .i64 f2, .int .i64 t2]) (by simp [results, Try.results42, go_sem, e1, e2]) rfl ?_
          exact ⟨f2, t2, rfl, by omega, (hs10.below hbl hp).mono (by omega), hc10.then_below hbl⟩
  · have hin := okBr_in hok
    have hfb := hF_bd hin hl
    have HL := Lib.hid (okBr_lt hok)
    cases hok2 : hOk xs
    · go_enter Try.func42, Try.ntmps42
      go_wp2_with fail
      refine (l03Ok_is hok (hI4.sl hhi) c0 c1).mono ?_
      rintro e w3 ⟨rfl, hb3⟩
      have hz3 := hb3.size
      have hb3' : w3.heap[g]? = some (.cells #[.int .i64 n, .slice A xs.length c] 26) := by rw [hb3.block _ (by omega)]; exact hb4
      obtain ⟨d0, d1, -, -, -⟩ := box2 hb3'
      go_wp2_with fail
      refine (l06First_any _ xs hi _ ((hI4.below hb3 (by omega)).sl (Nat.le_refl _)) (by omega) HL.out).mono ?_
      rintro e w5 ⟨rfl, hb5⟩
      have hz5 := hb5.size
      have ha6 := al1 w5 (.cells #[.int .i64 (hF xs), .int .i64 (hT xs)] 39)
      have hn6 := alloc_at_ w5 (.cells #[.int .i64 (hF xs), .int .i64 (hT xs)] 39)
      have hb6 : Below (w.heap.size + 2) W4 (w5.alloc (.cells #[.int .i64 (hF xs), .int .i64 (hT xs)] 39)) := ((hb3.mono (by omega)).trans (hb5.mono (by omega))).trans (ha6.mono (by omega))
      generalize hW6 : w5.alloc (.cells #[.int .i64 (hF xs), .int .i64 (hT xs)] 39) = W6 at hb6 hn6
      have hz6 := hb6.size
      obtain ⟨f, t, hf, hx3⟩ : ∃ f t : Int, (0 ≤ f ∧ f ≤ 60) ∧ W6.heap[w.heap.size + 1]? = some (.cells #[.int .i64 f, .int .i64 t] 39) := ⟨0, 0, by omega, by rw [hb6.block _ (by omega)]; exact hx4⟩
      have hy3 : W6.heap[w.heap.size]? = some (.cells #[.int .i64 0, .int .i64 0] 39) := by rw [hb6.block _ (by omega)]; exact hy4
      have hs3 := hs4.below hb6 (by omega)
      have hc3 := hc4.then_below (hb6.mono (by omega))
      clear hb3 hb5 hb6 ha6 hs4 hx4 hy4 hI4 hb4 hc4 c0 c1 hok s0 s1 sf0 sf1 hW4 hW2 hW hWs hW2s hn6 d0 d1 hb3'
      go_wp2_with fail
      refine (one_any 4 p _ _ hs3 (by omega)).mono ?_
      rintro e w5 ⟨b5, rfl, hs5, hc5⟩
      have hz5 := hc5.size
      have hx5 : w5.heap[w.heap.size + 1]? = some (.cells #[.int .i64 f, .int .i64 t] 39) := by rw [hc5.block _ (by omega) (by omega)]; exact hx3
      have hy5 : w5.heap[w.heap.size]? = some (.cells #[.int .i64 0, .int .i64 0] 39) := by rw [hc5.block _ (by omega) (by omega)]; exact hy3
      have hc5 := hc3.trans hc5
      clear hc3 hs3 hx3 hy3
      obtain ⟨q0, q1, f0, f1, -⟩ := box2 hx5
      obtain ⟨r0, r1, rf0, rf1, -⟩ := box2 hy5
      cases b5
      · obtain ⟨e0, e1, e2⟩ := two_sets w5 w.heap.size (.int .i64 f) (.int .i64 t) r0 r1
        have hbl : Below w.heap.size w5 ((w5.setCell ⟨w.heap.size, 0, none⟩ (.int .i64 f)).setCell ⟨w.heap.size, 1, none⟩ (.int .i64 t)) := set_below (Nat.le_refl _) (set_below (Nat.le_refl _) (Below.refl _ _))
        go_wp2_with fail
        refine bodyPost_ret (v := .agg #[.int .i64 f, .int .i64 t]) (by simp [results, Try.results42, go_sem, e1, e2]) rfl ?_
        exact ⟨f, t, rfl, by omega, (hs5.below hbl hp).mono (by omega), hc5.then_below hbl⟩
      · have hs6 : Src w5.drew p _ := hs5.below (below_drewN (Below.refl w5.heap.size w5) 1) hs5.lt
        have HK := Lib.hid (fun w' (hw : Chg p (p + 1) w5 w') => show w'.cell? ⟨w.heap.size + 1, 0, none⟩ = some (.int .i64 f) ∧ w'.frozen? ⟨w.heap.size + 1, 0, none⟩ = false from
          ⟨by rw [World.cell?_of_block (w := w5) (hw.block (w.heap.size + 1) (by omega) (by omega))]; exact q0, by rw [World.frozen?_of_block (w := w5) (hw.block (w.heap.size + 1) (by omega) (by omega))]; exact f0⟩)
        clear r0 r1 rf0 rf1
        go_wp2_with fail
        go_region_law
          (go_simp; go_at_call 41; (refine (pick_any 3 p _ _ hs6 (by omega)).mono ?_); rintro e w7 ⟨x, rfl, x0, x1, hs7, hc7⟩; have hr7 : Chg p (p + 1) w5 w7 := chg_fresh (below_drewN (Below.refl w5.heap.size w5) 1) hc7; have q07 := (HK.out _ hr7).1; have f07 := (HK.out _ hr7).2; have hw1 : IntKind.i64.wrap (x - 1) = x - 1 := IntWalk.i64_in _ (by omega); have hw2 : IntKind.i64.wrap (f + (x - 1)) = f + (x - 1) := IntWalk.i64_in _ (by omega); dsimp only)
        all_goals
          have hz7 := hr7.size
          have hx7 : w7.heap[w.heap.size + 1]? = some (.cells #[.int .i64 f, .int .i64 t] 39) := by rw [hr7.block _ (by omega) (by omega)]; exact hx5
          have hy7 : w7.heap[w.heap.size]? = some (.cells #[.int .i64 0, .int .i64 0] 39) := by rw [hr7.block _ (by omega) (by omega)]; exact hy5
          have hx8 := heap_setCell_at (k := 0) (.int .i64 (f + (x - 1))) hx7
          have hy8 : (w7.setCell ⟨w.heap.size + 1, 0, none⟩ (.int .i64 (f + (x - 1)))).heap[w.heap.size]? = some (.cells #[.int .i64 0, .int .i64 0] 39) := by rw [Below.heap_setCell _ _ _ _ (by simp)]; exact hy7
          have hbs : Below w.heap.size w7 (w7.setCell ⟨w.heap.size + 1, 0, none⟩ (.int .i64 (f + (x - 1)))) := set_below (by simp only; omega) (Below.refl _ _)
          have hs8 := hs7.below hbs (by omega)
          have hc8 := (hc5.trans hr7).then_below hbs
          have hz8 := hbs.size
          have hfb : -1 ≤ f + (x - 1) ∧ f + (x - 1) ≤ 61 := by omega
          generalize w7.setCell ⟨w.heap.size + 1, 0, none⟩ (.int .i64 (f + (x - 1))) = W8 at *
          clear HK hs7 hbs hc5 hr7 hs6 q07 f07 hw1 hw2 q0 q1 f0 f1 hx5 hy5 hx7 hy7 hc7 hs5
          generalize f + (x - 1) = f2 at *
          obtain ⟨q0, q1, f0, f1, -⟩ := box2 (a := .int .i64 f2) (b := .int .i64 t) hx8
          have hs9 : Src W8.drew p _ := hs8.below (below_drewN (Below.refl W8.heap.size W8) 1) hs8.lt
          have HK := Lib.hid (fun w' (hw : Chg p (p + 1) W8 w') => show w'.cell? ⟨w.heap.size + 1, 1, none⟩ = some (.int .i64 t) ∧ w'.frozen? ⟨w.heap.size + 1, 1, none⟩ = false from
            ⟨by rw [World.cell?_of_block (w := W8) (hw.block (w.heap.size + 1) (by omega) (by omega))]; exact q1, by rw [World.frozen?_of_block (w := W8) (hw.block (w.heap.size + 1) (by omega) (by omega))]; exact f1⟩)
          go_wp2_with fail
          go_region_law
            (go_simp; go_at_call 41; (refine (pick_any 3 p _ _ hs9 (by omega)).mono ?_); rintro e w9 ⟨y, rfl, y0, y1, hs9', hc9⟩; have hr9 : Chg p (p + 1) W8 w9 := chg_fresh (below_drewN (Below.refl W8.heap.size W8) 1) hc9; have q19 := (HK.out _ hr9).1; have f19 := (HK.out _ hr9).2; have hw3 : IntKind.i64.wrap (y - 1) = y - 1 := IntWalk.i64_in _ (by omega); obtain ⟨t2, ht2⟩ : ∃ t2, IntKind.i64.wrap (t + (y - 1)) = t2 := ⟨_, rfl⟩; dsimp only)
          all_goals
            have hz9 := hr9.size
            have hx9 : w9.heap[w.heap.size + 1]? = some (.cells #[.int .i64 f2, .int .i64 t] 39) := by rw [hr9.block _ (by omega) (by omega)]; exact hx8
            have hy9 : w9.heap[w.heap.size]? = some (.cells #[.int .i64 0, .int .i64 0] 39) := by rw [hr9.block _ (by omega) (by omega)]; exact hy8
            have hx10 := heap_setCell_at (k := 1) (.int .i64 t2) hx9
            have hy10 : (w9.setCell ⟨w.heap.size + 1, 1, none⟩ (.int .i64 t2)).heap[w.heap.size]? = some (.cells #[.int .i64 0, .int .i64 0] 39) := by rw [Below.heap_setCell _ _ _ _ (by simp)]; exact hy9
            have hbs : Below w.heap.size w9 (w9.setCell ⟨w.heap.size + 1, 1, none⟩ (.int .i64 t2)) := set_below (by simp only; omega) (Below.refl _ _)
            have hs10 := hs9'.below hbs (by omega)
            have hc10 := (hc8.trans hr9).then_below hbs
            clear HK hs9' hbs hc8 hr9 hs8 hs9 q19 f19 q0 q1 f0 f1 hx8 hy8 hx9 hy9 hc9 hw3
            generalize w9.setCell ⟨w.heap.size + 1, 1, none⟩ (.int .i64 t2) = W at *
            obtain ⟨q0, q1, f0, f1, -⟩ := box2 (a := .int .i64 f2) (b := .int .i64 t2) hx10
            obtain ⟨r0, r1, rf0, rf1, -⟩ := box2 hy10
            obtain ⟨e0, e1, e2⟩ := two_sets W w.heap.size (.int .i64 f2) (.int .i64 t2) r0 r1
            have hbl : Below w.heap.size W ((W.setCell ⟨w.heap.size, 0, none⟩ (.int .i64 f2)).setCell ⟨w.heap.size, 1, none⟩ (.int .i64 t2)) := set_below (Nat.le_refl _) (set_below (Nat.le_refl _) (Below.refl _ _))
            clear ht2
            go_wp2_with fail
            refine bodyPost_ret (v := .agg #[.int .i64 f2, .int .i64 t2]) (by simp [results, Try.results42, go_sem, e1, e2]) rfl ?_
            exact ⟨f2, t2, rfl, by omega, (hs10.below hbl hp).mono (by omega), hc10.then_below hbl⟩
    · go_enter Try.func42, Try.ntmps42
      go_wp2_with fail
      refine (l03Ok_is hok (hI4.sl hhi) c0 c1).mono ?_
      rintro e w3 ⟨rfl, hb3⟩
      have hz3 := hb3.size
      have hb3' : w3.heap[g]? = some (.cells #[.int .i64 n, .slice A xs.length c] 26) := by rw [hb3.block _ (by omega)]; exact hb4
      obtain ⟨d0, d1, -, -, -⟩ := box2 hb3'
      go_wp2_with fail
      refine (l06First_any _ xs hi _ ((hI4.below hb3 (by omega)).sl (Nat.le_refl _)) (by omega) HL.out).mono ?_
      rintro e w5 ⟨rfl, hb5⟩
      have hz5 := hb5.size
      have ha6 := al1 w5 (.cells #[.int .i64 (hF xs), .int .i64 (hT xs)] 39)
      have hn6 := alloc_at_ w5 (.cells #[.int .i64 (hF xs), .int .i64 (hT xs)] 39)
      have hb6 : Below (w.heap.size + 2) W4 (w5.alloc (.cells #[.int .i64 (hF xs), .int .i64 (hT xs)] 39)) := ((hb3.mono (by omega)).trans (hb5.mono (by omega))).trans (ha6.mono (by omega))
      generalize hW6 : w5.alloc (.cells #[.int .i64 (hF xs), .int .i64 (hT xs)] 39) = W6 at hb6 hn6
      have hz6 := hb6.size
      have hx6 : W6.heap[w.heap.size + 1]? = some (.cells #[.int .i64 0, .int .i64 0] 39) := by rw [hb6.block _ (by omega)]; exact hx4
      have hy6 : W6.heap[w.heap.size]? = some (.cells #[.int .i64 0, .int .i64 0] 39) := by rw [hb6.block _ (by omega)]; exact hy4
      obtain ⟨n0, n1, -, -, -⟩ := box2 hn6
      obtain ⟨u0, u1, uf0, uf1, -⟩ := box2 hx6
      have hb7 : Below w.heap.size W6 ((W6.setCell ⟨w.heap.size + 1, 0, none⟩ (.int .i64 (hF xs))).setCell ⟨w.heap.size + 1, 1, none⟩ (.int .i64 (hT xs))) := set_below (by simp only; omega) (set_below (by simp only; omega) (Below.refl _ _))
      obtain ⟨f, t, hf, hx3⟩ : ∃ f t : Int, (0 ≤ f ∧ f ≤ 60) ∧ ((W6.setCell ⟨w.heap.size + 1, 0, none⟩ (.int .i64 (hF xs))).setCell ⟨w.heap.size + 1, 1, none⟩ (.int .i64 (hT xs))).heap[w.heap.size + 1]? = some (.cells #[.int .i64 f, .int .i64 t] 39) := ⟨hF xs, hT xs, hfb, heap_setCell_at (k := 1) (.int .i64 (hT xs)) (heap_setCell_at (k := 0) (.int .i64 (hF xs)) hx6)⟩
      have hy3 : ((W6.setCell ⟨w.heap.size + 1, 0, none⟩ (.int .i64 (hF xs))).setCell ⟨w.heap.size + 1, 1, none⟩ (.int .i64 (hT xs))).heap[w.heap.size]? = some (.cells #[.int .i64 0, .int .i64 0] 39) := by
        rw [Below.heap_setCell _ _ _ _ (by simp), Below.heap_setCell _ _ _ _ (by simp)]
        exact hy6
      have hs3 := (hs4.below hb6 (by omega)).below hb7 hp
      have hc3 := (hc4.then_below (hb6.mono (by omega))).then_below hb7
      have hz7' := hb7.size
      clear hb3 hb5 hb6 ha6 hs4 hx4 hy4 hI4 hb4 hc4 c0 c1 hok s0 s1 sf0 sf1 hW4 hW2 hW hWs hW2s d0 d1 hb3' hb7 hx6 hy6 hn6
      generalize hW7 : (W6.setCell ⟨w.heap.size + 1, 0, none⟩ (.int .i64 (hF xs))).setCell ⟨w.heap.size + 1, 1, none⟩ (.int .i64 (hT xs)) = W7 at hx3 hy3 hs3 hc3 hz7'
      go_wp2_with fail
      clear n0 n1 u0 u1 uf0 uf1 hW7 hW6
      refine (one_any 4 p _ _ hs3 (by omega)).mono ?_
      rintro e w5 ⟨b5, rfl, hs5, hc5⟩
      have hz5 := hc5.size
      have hx5 : w5.heap[w.heap.size + 1]? = some (.cells #[.int .i64 f, .int .i64 t] 39) := by rw [hc5.block _ (by omega) (by omega)]; exact hx3
      have hy5 : w5.heap[w.heap.size]? = some (.cells #[.int .i64 0, .int .i64 0] 39) := by rw [hc5.block _ (by omega) (by omega)]; exact hy3
      have hc5 := hc3.trans hc5
      clear hc3 hs3 hx3 hy3
      obtain ⟨q0, q1, f0, f1, -⟩ := box2 hx5
      obtain ⟨r0, r1, rf0, rf1, -⟩ := box2 hy5
      cases b5
      · obtain ⟨e0, e1, e2⟩ := two_sets w5 w.heap.size (.int .i64 f) (.int .i64 t) r0 r1
        have hbl : Below w.heap.size w5 ((w5.setCell ⟨w.heap.size, 0, none⟩ (.int .i64 f)).setCell ⟨w.heap.size, 1, none⟩ (.int .i64 t)) := set_below (Nat.le_refl _) (set_below (Nat.le_refl _) (Below.refl _ _))
        go_wp2_with fail
        refine bodyPost_ret (v := .agg #[.int .i64 f, .int .i64 t]) (by simp [results, Try.results42, go_sem, e1, e2]) rfl ?_
        exact ⟨f, t, rfl, by omega, (hs5.below hbl hp).mono (by omega), hc5.then_below hbl⟩
      · have hs6 : Src w5.drew p _ := hs5.below (below_drewN (Below.refl w5.heap.size w5) 1) hs5.lt
        have HK := Lib.hid (fun w' (hw : Chg p (p + 1) w5 w') => show w'.cell? ⟨w.heap.size + 1, 0, none⟩ = some (.int .i64 f) ∧ w'.frozen? ⟨w.heap.size + 1, 0, none⟩ = false from
          ⟨by rw [World.cell?_of_block (w := w5) (hw.block (w.heap.size + 1) (by omega) (by omega))]; exact q0, by rw [World.frozen?_of_block (w := w5) (hw.block (w.heap.size + 1) (by omega) (by omega))]; exact f0⟩)
        clear r0 r1 rf0 rf1
        go_wp2_with fail
        go_region_law
          (go_simp; go_at_call 41; (refine (pick_any 3 p _ _ hs6 (by omega)).mono ?_); rintro e w7 ⟨x, rfl, x0, x1, hs7, hc7⟩; have hr7 : Chg p (p + 1) w5 w7 := chg_fresh (below_drewN (Below.refl w5.heap.size w5) 1) hc7; have q07 := (HK.out _ hr7).1; have f07 := (HK.out _ hr7).2; have hw1 : IntKind.i64.wrap (x - 1) = x - 1 := IntWalk.i64_in _ (by omega); have hw2 : IntKind.i64.wrap (f + (x - 1)) = f + (x - 1) := IntWalk.i64_in _ (by omega); dsimp only)
        all_goals
          have hz7 := hr7.size
          have hx7 : w7.heap[w.heap.size + 1]? = some (.cells #[.int .i64 f, .int .i64 t] 39) := by rw [hr7.block _ (by omega) (by omega)]; exact hx5
          have hy7 : w7.heap[w.heap.size]? = some (.cells #[.int .i64 0, .int .i64 0] 39) := by rw [hr7.block _ (by omega) (by omega)]; exact hy5
          have hx8 := heap_setCell_at (k := 0) (.int .i64 (f + (x - 1))) hx7
          have hy8 : (w7.setCell ⟨w.heap.size + 1, 0, none⟩ (.int .i64 (f + (x - 1)))).heap[w.heap.size]? = some (.cells #[.int .i64 0, .int .i64 0] 39) := by rw [Below.heap_setCell _ _ _ _ (by simp)]; exact hy7
          have hbs : Below w.heap.size w7 (w7.setCell ⟨w.heap.size + 1, 0, none⟩ (.int .i64 (f + (x - 1)))) := set_below (by simp only; omega) (Below.refl _ _)
          have hs8 := hs7.below hbs (by omega)
          have hc8 := (hc5.trans hr7).then_below hbs
          have hz8 := hbs.size
          have hfb : -1 ≤ f + (x - 1) ∧ f + (x - 1) ≤ 61 := by omega
          generalize w7.setCell ⟨w.heap.size + 1, 0, none⟩ (.int .i64 (f + (x - 1))) = W8 at *
          clear HK hs7 hbs hc5 hr7 hs6 q07 f07 hw1 hw2 q0 q1 f0 f1 hx5 hy5 hx7 hy7 hc7 hs5
          generalize f + (x - 1) = f2 at *
          obtain ⟨q0, q1, f0, f1, -⟩ := box2 (a := .int .i64 f2) (b := .int .i64 t) hx8
          have hs9 : Src W8.drew p _ := hs8.below (below_drewN (Below.refl W8.heap.size W8) 1) hs8.lt
          have HK := Lib.hid (fun w' (hw : Chg p (p + 1) W8 w') => show w'.cell? ⟨w.heap.size + 1, 1, none⟩ = some (.int .i64 t) ∧ w'.frozen? ⟨w.heap.size + 1, 1, none⟩ = false from
            ⟨by rw [World.cell?_of_block (w := W8) (hw.block (w.heap.size + 1) (by omega) (by omega))]; exact q1, by rw [World.frozen?_of_block (w := W8) (hw.block (w.heap.size + 1) (by omega) (by omega))]; exact f1⟩)
          go_wp2_with fail
          go_region_law
            (go_simp; go_at_call 41; (refine (pick_any 3 p _ _ hs9 (by omega)).mono ?_); rintro e w9 ⟨y, rfl, y0, y1, hs9', hc9⟩; have hr9 : Chg p (p + 1) W8 w9 := chg_fresh (below_drewN (Below.refl W8.heap.size W8) 1) hc9; have q19 := (HK.out _ hr9).1; have f19 := (HK.out _ hr9).2; have hw3 : IntKind.i64.wrap (y - 1) = y - 1 := IntWalk.i64_in _ (by omega); obtain ⟨t2, ht2⟩ : ∃ t2, IntKind.i64.wrap (t + (y - 1)) = t2 := ⟨_, rfl⟩; dsimp only)
          all_goals
            have hz9 := hr9.size
            have hx9 : w9.heap[w.heap.size + 1]? = some (.cells #[.int .i64 f2, .int .i64 t] 39) := by rw [hr9.block _ (by omega) (by omega)]; exact hx8
            have hy9 : w9.heap[w.heap.size]? = some (.cells #[.int .i64 0, .int .i64 0] 39) := by rw [hr9.block _ (by omega) (by omega)]; exact hy8
            have hx10 := heap_setCell_at (k := 1) (.int .i64 t2) hx9
            have hy10 : (w9.setCell ⟨w.heap.size + 1, 1, none⟩ (.int .i64 t2)).heap[w.heap.size]? = some (.cells #[.int .i64 0, .int .i64 0] 39) := by rw [Below.heap_setCell _ _ _ _ (by simp)]; exact hy9
            have hbs : Below w.heap.size w9 (w9.setCell ⟨w.heap.size + 1, 1, none⟩ (.int .i64 t2)) := set_below (by simp only; omega) (Below.refl _ _)
            have hs10 := hs9'.below hbs (by omega)
            have hc10 := (hc8.trans hr9).then_below hbs
            clear HK hs9' hbs hc8 hr9 hs8 hs9 q19 f19 q0 q1 f0 f1 hx8 hy8 hx9 hy9 hc9 hw3
            generalize w9.setCell ⟨w.heap.size + 1, 1, none⟩ (.int .i64 t2) = W at *
            obtain ⟨q0, q1, f0, f1, -⟩ := box2 (a := .int .i64 f2) (b := .int .i64 t2) hx10
            obtain ⟨r0, r1, rf0, rf1, -⟩ := box2 hy10
            obtain ⟨e0, e1, e2⟩ := two_sets W w.heap.size (.int .i64 f2) (.int .i64 t2) r0 r1
            have hbl : Below w.heap.size W ((W.setCell ⟨w.heap.size, 0, none⟩ (.int .i64 f2)).setCell ⟨w.heap.size, 1, none⟩ (.int .i64 t2)) := set_below (Nat.le_refl _) (set_below (Nat.le_refl _) (Below.refl _ _))
            clear ht2
            go_wp2_with fail
            refine bodyPost_ret (v := .agg #[.int .i64 f2, .int .i64 t2]) (by simp [results, Try.results42, go_sem, e1, e2]) rfl ?_
            exact ⟨f2, t2, rfl, by omega, (hs10.below hbl hp).mono (by omega), hc10.then_below hbl⟩
end Go.Proofs.Ytcinnbkhnonijaa
