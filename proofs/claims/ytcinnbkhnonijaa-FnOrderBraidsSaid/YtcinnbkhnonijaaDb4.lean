/-
  Contracts: DrawReduceHandle of the reference.
-/
import Derived.Test.YtcinnbkhnonijaaDb2
import Derived.Test.YtcinnbkhnonijaaDb3
import Derived.Deep.LoopGhost
namespace Go.Proofs.Ytcinnbkhnonijaa
set_option maxRecDepth 10000
open Go.RowKit

theorem SlB.up {w : World} {B B' : Nat} {v : Value} {bs : List Int} (h : SlB w B v bs) (hB : B ≤ B') : SlB w B' v bs := by
  obtain ⟨A, c, rfl, h1, h2, h3, h4⟩ := h
  refine ⟨A, c, rfl, h1, h2, h3, fun hp => ?_⟩
  obtain ⟨b, off, rfl, hb, hc⟩ := h4 hp
  exact ⟨b, off, rfl, by omega, hc⟩
theorem SlB.below {w w' : World} {B : Nat} {v : Value} {bs : List Int} (h : SlB w B v bs) (hb : Below B w w') : SlB w' B v bs := h.keep fun _ hq => World.cell?_of_block (w := w) (hb.block _ hq)
/-- The end of a function that stores a braid and a handle into its results. -/
theorem fin_two {w : World} {R lo hi : Nat} {a b c d v : Value} {n f t : Int} {xs : List Int} {t1 t2 : TypeId} (hx : w.heap[R]? = some (.cells #[a, b] t1)) (hy : w.heap[R + 1]? = some (.cells #[c, d] t2)) (hI : SlI lo hi w v xs) (hlo : R + 1 < lo) (hhi : hi ≤ w.heap.size) :
    let W := (((w.setCell ⟨R, 0, none⟩ (.int .i64 n)).setCell ⟨R, 1, none⟩ v).setCell ⟨R + 1, 0, none⟩ (.int .i64 f)).setCell ⟨R + 1, 1, none⟩ (.int .i64 t)
    (W.cell? ⟨R, 0, none⟩ = some (.int .i64 n) ∧ W.cell? ⟨R, 1, none⟩ = some v ∧ W.cell? ⟨R + 1, 0, none⟩ = some (.int .i64 f) ∧ W.cell? ⟨R + 1, 1, none⟩ = some (.int .i64 t)) ∧
      SlI lo W.heap.size W v xs ∧ Below R w W := by
  intro W
  have h1 := heap_setCell_at (k := 1) v (heap_setCell_at (k := 0) (.int .i64 n) hx)
  have h2 : ((w.setCell ⟨R, 0, none⟩ (.int .i64 n)).setCell ⟨R, 1, none⟩ v).heap[R + 1]? = some (.cells #[c, d] t2) := by
    rw [Below.heap_setCell _ _ _ _ (by simp), Below.heap_setCell _ _ _ _ (by simp)]
    exact hy
  have h3 := heap_setCell_at (k := 1) (.int .i64 t) (heap_setCell_at (k := 0) (.int .i64 f) h2)
  have h4 : W.heap[R]? = some (.cells ((#[a, b].setIfInBounds 0 (.int .i64 n)).setIfInBounds 1 v) t1) := by
    show ((((w.setCell ⟨R, 0, none⟩ (.int .i64 n)).setCell ⟨R, 1, none⟩ v).setCell ⟨R + 1, 0, none⟩ (.int .i64 f)).setCell ⟨R + 1, 1, none⟩ (.int .i64 t)).heap[R]? = _
    rw [Below.heap_setCell _ _ _ _ (by simp), Below.heap_setCell _ _ _ _ (by simp)]
    exact h1
  obtain ⟨a1, a2, -, -, -⟩ := box2 (a := .int .i64 n) (b := v) h4
  obtain ⟨b1, b2, -, -, -⟩ := box2 (a := .int .i64 f) (b := .int .i64 t) h3
  have hsz : W.heap.size = w.heap.size := by simp [W, World.setCell]
  have hB : Below (R + 1) ((w.setCell ⟨R, 0, none⟩ (.int .i64 n)).setCell ⟨R, 1, none⟩ v) W := set_below (Nat.le_refl _) (set_below (Nat.le_refl _) (Below.refl _ _))
  have hB2 : Below R w ((w.setCell ⟨R, 0, none⟩ (.int .i64 n)).setCell ⟨R, 1, none⟩ v) := set_below (Nat.le_refl _) (set_below (Nat.le_refl _) (Below.refl _ _))
  refine ⟨⟨a1, a2, b1, b2⟩, (hI.keep fun j h1 h2 => ?_).mono (Nat.le_refl _) (by omega), hB2.trans (hB.mono (by omega))⟩
  show ((((w.setCell ⟨R, 0, none⟩ (.int .i64 n)).setCell ⟨R, 1, none⟩ v).setCell ⟨R + 1, 0, none⟩ (.int .i64 f)).setCell ⟨R + 1, 1, none⟩ (.int .i64 t)).heap[j]? = _
  rw [Below.heap_setCell _ _ _ _ (by simp only; omega), Below.heap_setCell _ _ _ _ (by simp only; omega), Below.heap_setCell _ _ _ _ (by simp only; omega), Below.heap_setCell _ _ _ _ (by simp only; omega)]
set_option maxHeartbeats 3200000 in
theorem DrawReduceHandle_any (v0 : Value) (bs : List Int) (w : World) (h : SlB w w.heap.size v0 bs) :
    Calls Try.prog 17 #[v0] w fun e w' => ∃ (n : Int) (v : Value) (xs : List Int) (f t : Int), e = .returned (.tuple #[.agg #[.int .i64 n, v], .agg #[.int .i64 f, .int .i64 t]]) ∧ SlI w.heap.size w'.heap.size w' v xs ∧ xs.length ≤ 60 ∧ (-9223372036854775808 ≤ f ∧ f ≤ 9223372036854775807) ∧ Below w.heap.size w w' := by
  have hA := al1 w (.cells #[.int .i64 0, .slice none 0 0] 26)
  have hx := alloc_at_ w (.cells #[.int .i64 0, .slice none 0 0] 26)
  generalize hW : w.alloc (.cells #[.int .i64 0, .slice none 0 0] 26) = W at hA hx
  have hWs : W.heap.size = w.heap.size + 1 := by rw [← hW]; simp
  have hA2 := al1 W (.cells #[.int .i64 0, .int .i64 0] 39)
  have hx2 := alloc_at_ W (.cells #[.int .i64 0, .int .i64 0] 39)
  have hy2 : (W.alloc (.cells #[.int .i64 0, .int .i64 0] 39)).heap[w.heap.size]? = some (.cells #[.int .i64 0, .slice none 0 0] 26) := by rw [hA2.block _ (by omega)]; exact hx
  generalize hW2 : W.alloc (.cells #[.int .i64 0, .int .i64 0] 39) = W2 at hA2 hx2 hy2
  obtain ⟨p, hpe, hpl, hpu⟩ : ∃ p, W2.heap.size = p ∧ w.heap.size + 2 ≤ p ∧ p ≤ w.heap.size + 2 := ⟨_, rfl, by rw [← hW2]; simp [hWs], by rw [← hW2]; simp [hWs]⟩
  rw [hWs] at hx2
  have hB2 : Below w.heap.size w W2 := hA.trans (hA2.mono (by omega))
  have hSl : SlB W2 W2.heap.size v0 bs := (h.below hB2).up (by omega)
  clear hA hA2 hx
  go_enter Try.func17, Try.ntmps17
  go_wp2_with fail
  refine (l00From_any v0 bs W2 hSl).mono ?_
  rintro e w1 ⟨rfl, hs1, hb1⟩
  rw [hpe] at hs1 hb1 ⊢
  have hz1 := hb1.size
  have hp1 := hs1.lt
  have hx1 : w1.heap[w.heap.size + 1]? = some (.cells #[.int .i64 0, .int .i64 0] 39) := by rw [hb1.block _ (by omega)]; exact hx2
  have hy1 : w1.heap[w.heap.size]? = some (.cells #[.int .i64 0, .slice none 0 0] 26) := by rw [hb1.block _ (by omega)]; exact hy2
  have hB1 : Below w.heap.size w w1 := hB2.trans (hb1.mono (by omega))
  clear hb1 hx2 hy2 hSl hB2 h hW hW2 hWs hpe
  go_wp2_with fail
  refine (l03Bent_any 14 p 0 w1 hs1 (by omega) (by omega) (by omega)).mono ?_
  rintro e w2 ⟨n, r, xs, rfl, hI2, hl3, -, hs2, hc2⟩
  obtain ⟨A, c, rfl, -⟩ := id hI2
  have hz2 := hc2.size
  have hx2 : w2.heap[w.heap.size + 1]? = some (.cells #[.int .i64 0, .int .i64 0] 39) := by rw [hc2.block _ (by omega) (by omega)]; exact hx1
  have hy2 : w2.heap[w.heap.size]? = some (.cells #[.int .i64 0, .slice none 0 0] 26) := by rw [hc2.block _ (by omega) (by omega)]; exact hy1
  have hB2 : Below w.heap.size w w2 := hB1.trans (hc2.below (by omega) (by omega))
  clear hs1 hc2 hx1 hy1 hB1
  have ha3 := al1 w2 (.cells #[.int .i64 n, .slice A xs.length c] 26)
  have hb3 := alloc_at_ w2 (.cells #[.int .i64 n, .slice A xs.length c] 26)
  generalize hW3 : w2.alloc (.cells #[.int .i64 n, .slice A xs.length c] 26) = W3 at ha3 hb3
  have hI3 := hI2.below ha3 (Nat.le_refl _)
  have hs3 := hs2.below ha3 (by omega)
  have hx3 : W3.heap[w.heap.size + 1]? = some (.cells #[.int .i64 0, .int .i64 0] 39) := by rw [ha3.block _ (by omega)]; exact hx2
  have hy3 : W3.heap[w.heap.size]? = some (.cells #[.int .i64 0, .slice none 0 0] 26) := by rw [ha3.block _ (by omega)]; exact hy2
  have hB3 : Below w.heap.size w W3 := hB2.trans (ha3.mono (by omega))
  have hz3 := ha3.size
  have hg3 : w2.heap.size < W3.heap.size := (box2 hb3).2.2.2.2
  clear ha3 hx2 hy2 hB2 hI2 hs2
  go_wp2_with fail
  refine (one_any 8 p _ _ hs3 (by omega)).mono ?_
  rintro e w4 ⟨b4, rfl, hs4, hc4⟩
  have hz4 := hc4.size
  have hx4 : w4.heap[w.heap.size + 1]? = some (.cells #[.int .i64 0, .int .i64 0] 39) := by rw [hc4.block _ (by omega) (by omega)]; exact hx3
  have hy4 : w4.heap[w.heap.size]? = some (.cells #[.int .i64 0, .slice none 0 0] 26) := by rw [hc4.block _ (by omega) (by omega)]; exact hy3
  have hb4 : w4.heap[w2.heap.size]? = some (.cells #[.int .i64 n, .slice A xs.length c] 26) := by rw [hc4.block _ (by omega) (by omega)]; exact hb3
  have hI4 := hI3.keep (w' := w4) fun k h1 h2 => hc4.block k (by omega) (by omega)
  have hB4 : Below w.heap.size w w4 := hB3.trans (hc4.below (by omega) (by omega))
  clear hx3 hy3 hb3 hI3 hs3 hc4 hB3 hW3
  cases b4
  · obtain ⟨hx3, hy3, hb3, hI3, hs3, HB, hhi3⟩ := (⟨hx4, hy4, hb4, hI4, hs4, Lib.hid hB4, by omega⟩ : _ ∧ _ ∧ _ ∧ _ ∧ _ ∧ _ ∧ w2.heap.size ≤ w4.heap.size)
    have hc3 : True := trivial
    have hB3 : True := trivial
    clear hx4 hy4 hb4 hI4 hs4 hB4
    clear hc3 hB3
    obtain ⟨q0, q1, f0, f1, hgl⟩ := box2 hb3
    obtain ⟨r0, r1, rf0, rf1, -⟩ := box2 hy3
    obtain ⟨u0, u1, uf0, uf1, -⟩ := box2 hx3
    have hsd : Src w4.drew p _ := hs3.below (below_drewN (Below.refl w4.heap.size w4) 1) hs3.lt
    have hbd : w4.drew.heap[w2.heap.size]? = some (.cells #[.int .i64 n, .slice A xs.length c] 26) := hb3
    have hId : SlI w1.heap.size w2.heap.size w4.drew (.slice A xs.length c) xs := hI3.below (below_drewN (Below.refl w4.heap.size w4) 1) hhi3
    have HK := Lib.hid (fun w' (hw : Chg p (p + 1) w4 w') => show ((w'.cell? ⟨w2.heap.size, 0, none⟩ = some (.int .i64 n) ∧ w'.cell? ⟨w2.heap.size, 1, none⟩ = some (.slice A xs.length c)) ∧
        (w'.cell? ⟨w.heap.size, 0, none⟩ = some (.int .i64 0) ∧ w'.cell? ⟨w.heap.size, 1, none⟩ = some (.slice none 0 0) ∧ w'.frozen? ⟨w.heap.size, 0, none⟩ = false ∧ w'.frozen? ⟨w.heap.size, 1, none⟩ = false)) ∧
        (w'.cell? ⟨w.heap.size + 1, 0, none⟩ = some (.int .i64 0) ∧ w'.cell? ⟨w.heap.size + 1, 1, none⟩ = some (.int .i64 0) ∧ w'.frozen? ⟨w.heap.size + 1, 0, none⟩ = false ∧ w'.frozen? ⟨w.heap.size + 1, 1, none⟩ = false) from
      have e1 := hw.block w2.heap.size (by omega) (by omega)
      have e2 := hw.block w.heap.size (by omega) (by omega)
      have e3 := hw.block (w.heap.size + 1) (by omega) (by omega)
      ⟨⟨⟨by rw [World.cell?_of_block (w := w4) e1]; exact q0, by rw [World.cell?_of_block (w := w4) e1]; exact q1⟩, by rw [World.cell?_of_block (w := w4) e2]; exact r0, by rw [World.cell?_of_block (w := w4) e2]; exact r1, by rw [World.frozen?_of_block (w := w4) e2]; exact rf0, by rw [World.frozen?_of_block (w := w4) e2]; exact rf1⟩,
        by rw [World.cell?_of_block (w := w4) e3]; exact u0, by rw [World.cell?_of_block (w := w4) e3]; exact u1, by rw [World.frozen?_of_block (w := w4) e3]; exact uf0, by rw [World.frozen?_of_block (w := w4) e3]; exact uf1⟩)
    clear r0 r1 rf0 rf1 u0 u1 uf0 uf1 f0 f1
    go_wp2_with fail
    go_region_law
      (go_simp; go_at_call 42; (refine (l06Handle_any n _ xs w2.heap.size w1.heap.size w2.heap.size p _ _ hsd (by omega) hbd hId hhi3 hl3).mono ?_); rintro e w7 ⟨f, t, rfl, hf, hs7, hc7⟩; have hr7 : Chg p (p + 1) w4 w7 := chg_fresh (below_drewN (Below.refl w4.heap.size w4) 1) hc7; obtain ⟨⟨⟨q07, q17⟩, r0, r1, rf0, rf1⟩, u0, u1, uf0, uf1⟩ := HK.out _ hr7; dsimp only)
    all_goals
      have hz7 := hr7.size
      have hI7 := hI3.keep (w' := w7) fun k h1 h2 => hr7.block k (by omega) (by omega)
      have hx7 : w7.heap[w.heap.size + 1]? = some (.cells #[.int .i64 0, .int .i64 0] 39) := by rw [hr7.block _ (by omega) (by omega)]; exact hx3
      have hy7 : w7.heap[w.heap.size]? = some (.cells #[.int .i64 0, .slice none 0 0] 26) := by rw [hr7.block _ (by omega) (by omega)]; exact hy3
      obtain ⟨⟨e1, e2, e3, e4⟩, hI9, hbl⟩ := fin_two (n := n) (f := f) (t := t) hy7 hx7 hI7 (by omega) (by omega)
      have hbw : Below w.heap.size w w7 := HB.out.trans (hr7.below (by omega) (by omega))
      have Hi9 := Lib.hid hI9
      have HBL := Lib.hid hbl
      clear hI9 hbl HK hsd hbd hId hc7 hr7
      go_wp2_with fail
      refine bodyPost_ret (v := .tuple #[.agg #[.int .i64 n, .slice A xs.length c], .agg #[.int .i64 f, .int .i64 t]]) (by simp [results, Try.results17, go_sem, e1, e2, e3, e4]) rfl ?_
      exact ⟨n, _, xs, f, t, rfl, Hi9.out.mono (by omega) (Nat.le_refl _), hl3, hf, hbw.trans HBL.out⟩
  · have ha5 := al1 w4 (.cells #[.int .i64 1] 2)
    have hO5 : Ow (w4.alloc (.cells #[.int .i64 1] 2)) w4.heap.size (w4.alloc (.cells #[.int .i64 1] 2)).heap.size (.slice (some ⟨w4.heap.size, 0, none⟩) 1 1) [1] := ow_lits w4 [1] (by simp)
    generalize hW5 : w4.alloc (.cells #[.int .i64 1] 2) = W5 at ha5 hO5
    have hx5 : W5.heap[w.heap.size + 1]? = some (.cells #[.int .i64 0, .int .i64 0] 39) := by rw [ha5.block _ (by omega)]; exact hx4
    have hy5 : W5.heap[w.heap.size]? = some (.cells #[.int .i64 0, .slice none 0 0] 26) := by rw [ha5.block _ (by omega)]; exact hy4
    have hb5 : W5.heap[w2.heap.size]? = some (.cells #[.int .i64 n, .slice A xs.length c] 26) := by rw [ha5.block _ (by omega)]; exact hb4
    have hs5 := hs4.below ha5 (by omega)
    have hz5 := ha5.size
    obtain ⟨q0, q1, f0, f1, hg5⟩ := box2 hb5
    have hb6 := heap_setCell_at (k := 1) (.slice (some ⟨w4.heap.size, 0, none⟩) 1 1) (heap_setCell_at (k := 0) (.int .i64 3) hb5)
    have hO6 := (hO5.box_set (k := 0) (x := .int .i64 3) hb5 (by decide)).box_set (k := 1) (x := .slice (some ⟨w4.heap.size, 0, none⟩) 1 1) (heap_setCell_at (k := 0) (.int .i64 3) hb5) (by decide)
    have hx6 : ((W5.setCell ⟨w2.heap.size, 0, none⟩ (.int .i64 3)).setCell ⟨w2.heap.size, 1, none⟩ (.slice (some ⟨w4.heap.size, 0, none⟩) 1 1)).heap[w.heap.size + 1]? = some (.cells #[.int .i64 0, .int .i64 0] 39) := by
      rw [Below.heap_setCell _ _ _ _ (by simp only; omega), Below.heap_setCell _ _ _ _ (by simp only; omega)]; exact hx5
    have hy6 : ((W5.setCell ⟨w2.heap.size, 0, none⟩ (.int .i64 3)).setCell ⟨w2.heap.size, 1, none⟩ (.slice (some ⟨w4.heap.size, 0, none⟩) 1 1)).heap[w.heap.size]? = some (.cells #[.int .i64 0, .slice none 0 0] 26) := by
      rw [Below.heap_setCell _ _ _ _ (by simp only; omega), Below.heap_setCell _ _ _ _ (by simp only; omega)]; exact hy5
    have hb56 : Below w1.heap.size W5 ((W5.setCell ⟨w2.heap.size, 0, none⟩ (.int .i64 3)).setCell ⟨w2.heap.size, 1, none⟩ (.slice (some ⟨w4.heap.size, 0, none⟩) 1 1)) := set_below (by simp only; omega) (set_below (by simp only; omega) (Below.refl _ _))
    have hs6 := hs5.below hb56 (by omega)
    have hB6 : Below w.heap.size w ((W5.setCell ⟨w2.heap.size, 0, none⟩ (.int .i64 3)).setCell ⟨w2.heap.size, 1, none⟩ (.slice (some ⟨w4.heap.size, 0, none⟩) 1 1)) := (hB4.trans (ha5.mono (by omega))).trans (hb56.mono (by omega))
    have hz6 := hb56.size
    generalize hW6 : (W5.setCell ⟨w2.heap.size, 0, none⟩ (.int .i64 3)).setCell ⟨w2.heap.size, 1, none⟩ (.slice (some ⟨w4.heap.size, 0, none⟩) 1 1) = W6 at hb6 hO6 hx6 hy6 hs6 hB6 hz6
    have hb6 : W6.heap[w2.heap.size]? = some (.cells #[.int .i64 3, .slice (some ⟨w4.heap.size, 0, none⟩) 1 1] 26) := hb6
    have hO6 : Ow W6 w4.heap.size W6.heap.size (.slice (some ⟨w4.heap.size, 0, none⟩) 1 1) [1] := hO6.mono (Nat.le_refl _) hz6
    clear hb56 hs5 hx5 hy5 hb5 hO5 ha5 hB4 hs4 hI4 hb4 hx4 hy4
    go_wp2_with fail
    refine (pick_any 3 p _ _ hs6 (by omega)).mono ?_
    rintro e w7 ⟨x, rfl, x0, x1, hs7, hc7⟩
    have hz7 := hc7.size
    have hx7 : w7.heap[w.heap.size + 1]? = some (.cells #[.int .i64 0, .int .i64 0] 39) := by rw [hc7.block _ (by omega) (by omega)]; exact hx6
    have hy7 : w7.heap[w.heap.size]? = some (.cells #[.int .i64 0, .slice none 0 0] 26) := by rw [hc7.block _ (by omega) (by omega)]; exact hy6
    have hb7 : w7.heap[w2.heap.size]? = some (.cells #[.int .i64 3, .slice (some ⟨w4.heap.size, 0, none⟩) 1 1] 26) := by rw [hc7.block _ (by omega) (by omega)]; exact hb6
    have hO7 : Ow w7 w4.heap.size w7.heap.size (.slice (some ⟨w4.heap.size, 0, none⟩) 1 1) [1] := (hc7.ow_off hO6 (by omega) (Nat.le_refl _)).mono (Nat.le_refl _) hz7
    have hB7 : Below w.heap.size w w7 := hB6.trans (hc7.below (by omega) (by omega))
    obtain ⟨m, hm1, hm2⟩ : ∃ m : Nat, IntKind.i64.wrap (37 + x) = (m : Int) ∧ m ≤ 39 := ⟨(37 + x).toNat, (IntWalk.i64_in _ (by omega)).trans (by omega), by omega⟩
    clear hW5 hW6 hx6 hy6 hb6 hO6 hB6 hs6 hc7 q0 q1 f0 f1
    go_wp2_with fail
    go_loopw [6] (fun i wr => ∃ (k : Nat) (zs : List Int) (A : Option Addr) (c : Nat), i = .int .i64 k ∧ zs.length + k ≤ 40 ∧ wr.heap[w2.heap.size]? = some (.cells #[.int .i64 3, .slice A zs.length c] 26) ∧ wr.heap[w.heap.size + 1]? = some (.cells #[.int .i64 0, .int .i64 0] 39) ∧ wr.heap[w.heap.size]? = some (.cells #[.int .i64 0, .slice none 0 0] 26) ∧ Ow wr w4.heap.size wr.heap.size (.slice A zs.length c) zs ∧ Src wr p 800 ∧ Below w.heap.size w wr ∧ w4.heap.size ≤ wr.heap.size) (fun i _ => (intOf i).toNat)
    case atStart => exact ⟨m, [1], _, 1, rfl, by simp; omega, hb7, hx7, hy7, hO7, hs7.mono (by omega), hB7, by omega⟩
    case round =>
      obtain ⟨k, zs, A, c, rfl, hl, hb8, hx8, hy8, hO8, hs8, hB8, hz8⟩ := hrel
      clear hx7 hy7 hb7 hO7 hs7 hB7
      obtain ⟨q0, q1, f0, f1, -⟩ := box2 hb8
      by_cases hk : 0 < k
      · have hkI : 0 < (k : Int) := by omega
        go_wp2_with (at_builtin; (refine wpList_append_one rfl _ _ rfl wr _ _ (.slice A zs.length c) zs 2 rfl rfl hO8 (by omega) (by omega) ?_); intro v9 w9 hO9 hg9 _; obtain ⟨A9, c9, rfl, -⟩ := id (hO9.sl (Nat.le_refl _)); have hb9 := hg9.block w2.heap.size (by omega) (hO8.ne_box hb8 (by decide)).symm; rw [hb8] at hb9; obtain ⟨u0, u1, uf0, uf1, -⟩ := box2 hb9; have HB9 := Lib.hid hb9; clear hb9)
        have hbw := hO8.grown hg9 (Nat.le_refl _) hz8
        have hz9 := hbw.size
        have hl9 : (zs ++ [2]).length = zs.length + 1 := by simp
        have hbs : Below w1.heap.size w9 (w9.setCell ⟨w2.heap.size, 1, none⟩ (.slice A9 (zs.length + 1) c9)) := set_below (by simp only; omega) (Below.refl _ _)
        go_roundw
        case rel =>
          refine ⟨k - 1, zs ++ [2], A9, c9, by go_num, by rw [hl9]; omega, by rw [hl9]; exact heap_setCell_at _ HB9.out, ?_, ?_, ?_, (hs8.below hbw (by omega)).below hbs (by omega), (hB8.trans (hbw.mono (by omega))).trans (hbs.mono (by omega)), Nat.le_trans hz8 (Nat.le_trans hz9 hbs.size)⟩
          · rw [Below.heap_setCell _ _ _ _ (by simp only; omega), hbw.block _ (by omega)]; exact hx8
          · rw [Below.heap_setCell _ _ _ _ (by simp only; omega), hbw.block _ (by omega)]; exact hy8
          · rw [hl9] at hO9 ⊢; exact (hO9.box_set HB9.out (by decide)).mono (Nat.le_refl _) (by simp [World.setCell])
        case measure => simp [intOf]; omega
      · obtain rfl : k = 0 := by omega
        go_wp2_with (at_builtin; (refine wpList_append_one rfl _ _ rfl wr _ _ (.slice A zs.length c) zs (-1) rfl rfl hO8 (by omega) (by omega) ?_); intro v9 w9 hO9 hg9 _; obtain ⟨A9, c9, rfl, -⟩ := id (hO9.sl (Nat.le_refl _)); have hb9 := hg9.block w2.heap.size (by omega) (hO8.ne_box hb8 (by decide)).symm; rw [hb8] at hb9; obtain ⟨u0, u1, uf0, uf1, -⟩ := box2 hb9; have HB9 := Lib.hid hb9; clear hb9)
        have hbw := hO8.grown hg9 (Nat.le_refl _) hz8
        have hz9 := hbw.size
        have hl9 : (zs ++ [-1]).length = zs.length + 1 := by simp
        have hbs : Below w1.heap.size w9 (w9.setCell ⟨w2.heap.size, 1, none⟩ (.slice A9 (zs.length + 1) c9)) := set_below (by simp only; omega) (Below.refl _ _)
        have hz10 := hbs.size
        obtain ⟨n, xs, hxl, hx3, hy3, hb3, hI3, hs3, HB, hhi3, hl3⟩ : ∃ (n : Int) (xs : List Int), zs.length + 1 = xs.length ∧ (w9.setCell ⟨w2.heap.size, 1, none⟩ (.slice A9 (zs.length + 1) c9)).heap[w.heap.size + 1]? = some (.cells #[.int .i64 0, .int .i64 0] 39) ∧
            (w9.setCell ⟨w2.heap.size, 1, none⟩ (.slice A9 (zs.length + 1) c9)).heap[w.heap.size]? = some (.cells #[.int .i64 0, .slice none 0 0] 26) ∧ (w9.setCell ⟨w2.heap.size, 1, none⟩ (.slice A9 (zs.length + 1) c9)).heap[w2.heap.size]? = some (.cells #[.int .i64 n, .slice A9 xs.length c9] 26) ∧
            SlI w4.heap.size w9.heap.size (w9.setCell ⟨w2.heap.size, 1, none⟩ (.slice A9 (zs.length + 1) c9)) (.slice A9 xs.length c9) xs ∧ Src (w9.setCell ⟨w2.heap.size, 1, none⟩ (.slice A9 (zs.length + 1) c9)) p 800 ∧ Hid (Below w.heap.size w (w9.setCell ⟨w2.heap.size, 1, none⟩ (.slice A9 (zs.length + 1) c9))) ∧ w9.heap.size ≤ (w9.setCell ⟨w2.heap.size, 1, none⟩ (.slice A9 (zs.length + 1) c9)).heap.size ∧ xs.length ≤ 60 := by
          refine ⟨3, zs ++ [-1], hl9.symm, ?_, ?_, by rw [hl9]; exact heap_setCell_at _ HB9.out, ?_, (hs8.below hbw (by omega)).below hbs (by omega), Lib.hid ((hB8.trans (hbw.mono (by omega))).trans (hbs.mono (by omega))), hz10, by rw [hl9]; omega⟩
          · rw [Below.heap_setCell _ _ _ _ (by simp only; omega), hbw.block _ (by omega)]; exact hx8
          · rw [Below.heap_setCell _ _ _ _ (by simp only; omega), hbw.block _ (by omega)]; exact hy8
          · rw [hl9] at hO9 ⊢; exact (hO9.box_set HB9.out (by decide)).slI
        have hc3 : True := trivial
        have hB3 : True := trivial
        clear hbs hbw HB9 hO9 hg9 hx8 hy8 hb8 hO8 hs8 hB8 q0 q1 f0 f1 u0 u1 uf0 uf1
        generalize w9.setCell ⟨w2.heap.size, 1, none⟩ (.slice A9 (zs.length + 1) c9) = X at *
        rw [hxl]
        clear hxl
        obtain ⟨A, hA⟩ : ∃ A, A = A9 := ⟨_, rfl⟩
        subst hA
        obtain ⟨c, hc⟩ : ∃ c, c = c9 := ⟨_, rfl⟩
        subst hc
        clear hc3 hB3
        obtain ⟨q0, q1, f0, f1, hgl⟩ := box2 hb3
        obtain ⟨r0, r1, rf0, rf1, -⟩ := box2 hy3
        obtain ⟨u0, u1, uf0, uf1, -⟩ := box2 hx3
        have hsd : Src X.drew p _ := hs3.below (below_drewN (Below.refl X.heap.size X) 1) hs3.lt
        have hbd : X.drew.heap[w2.heap.size]? = some (.cells #[.int .i64 n, .slice A xs.length c] 26) := hb3
        have hId : SlI w4.heap.size w9.heap.size X.drew (.slice A xs.length c) xs := hI3.below (below_drewN (Below.refl X.heap.size X) 1) hhi3
        have HK := Lib.hid (fun w' (hw : Chg p (p + 1) X w') => show ((w'.cell? ⟨w2.heap.size, 0, none⟩ = some (.int .i64 n) ∧ w'.cell? ⟨w2.heap.size, 1, none⟩ = some (.slice A xs.length c)) ∧
            (w'.cell? ⟨w.heap.size, 0, none⟩ = some (.int .i64 0) ∧ w'.cell? ⟨w.heap.size, 1, none⟩ = some (.slice none 0 0) ∧ w'.frozen? ⟨w.heap.size, 0, none⟩ = false ∧ w'.frozen? ⟨w.heap.size, 1, none⟩ = false)) ∧
            (w'.cell? ⟨w.heap.size + 1, 0, none⟩ = some (.int .i64 0) ∧ w'.cell? ⟨w.heap.size + 1, 1, none⟩ = some (.int .i64 0) ∧ w'.frozen? ⟨w.heap.size + 1, 0, none⟩ = false ∧ w'.frozen? ⟨w.heap.size + 1, 1, none⟩ = false) from
          have e1 := hw.block w2.heap.size (by omega) (by omega)
          have e2 := hw.block w.heap.size (by omega) (by omega)
          have e3 := hw.block (w.heap.size + 1) (by omega) (by omega)
          ⟨⟨⟨by rw [World.cell?_of_block (w := X) e1]; exact q0, by rw [World.cell?_of_block (w := X) e1]; exact q1⟩, by rw [World.cell?_of_block (w := X) e2]; exact r0, by rw [World.cell?_of_block (w := X) e2]; exact r1, by rw [World.frozen?_of_block (w := X) e2]; exact rf0, by rw [World.frozen?_of_block (w := X) e2]; exact rf1⟩,
            by rw [World.cell?_of_block (w := X) e3]; exact u0, by rw [World.cell?_of_block (w := X) e3]; exact u1, by rw [World.frozen?_of_block (w := X) e3]; exact uf0, by rw [World.frozen?_of_block (w := X) e3]; exact uf1⟩)
        clear r0 r1 rf0 rf1 u0 u1 uf0 uf1 f0 f1
        go_wp2_with fail
        go_region_law
          (go_simp; go_at_call 42; (refine (l06Handle_any n _ xs w2.heap.size w4.heap.size w9.heap.size p _ _ hsd (by omega) hbd hId hhi3 hl3).mono ?_); rintro e w7 ⟨f, t, rfl, hf, hs7, hc7⟩; have hr7 : Chg p (p + 1) X w7 := chg_fresh (below_drewN (Below.refl X.heap.size X) 1) hc7; obtain ⟨⟨⟨q07, q17⟩, r0, r1, rf0, rf1⟩, u0, u1, uf0, uf1⟩ := HK.out _ hr7; dsimp only)
        all_goals
          have hz7 := hr7.size
          have hI7 := hI3.keep (w' := w7) fun k h1 h2 => hr7.block k (by omega) (by omega)
          have hx7 : w7.heap[w.heap.size + 1]? = some (.cells #[.int .i64 0, .int .i64 0] 39) := by rw [hr7.block _ (by omega) (by omega)]; exact hx3
          have hy7 : w7.heap[w.heap.size]? = some (.cells #[.int .i64 0, .slice none 0 0] 26) := by rw [hr7.block _ (by omega) (by omega)]; exact hy3
          obtain ⟨⟨e1, e2, e3, e4⟩, hI9, hbl⟩ := fin_two (n := n) (f := f) (t := t) hy7 hx7 hI7 (by omega) (by omega)
          have hbw : Below w.heap.size w w7 := HB.out.trans (hr7.below (by omega) (by omega))
          have Hi9 := Lib.hid hI9
          have HBL := Lib.hid hbl
          clear hI9 hbl HK hsd hbd hId hc7 hr7
          go_wp2_with fail
          refine bodyPost_ret (v := .tuple #[.agg #[.int .i64 n, .slice A xs.length c], .agg #[.int .i64 f, .int .i64 t]]) (by simp [results, Try.results17, go_sem, e1, e2, e3, e4]) rfl ?_
          exact ⟨n, _, xs, f, t, rfl, Hi9.out.mono (by omega) (Nat.le_refl _), hl3, hf, hbw.trans HBL.out⟩
end Go.Proofs.Ytcinnbkhnonijaa
